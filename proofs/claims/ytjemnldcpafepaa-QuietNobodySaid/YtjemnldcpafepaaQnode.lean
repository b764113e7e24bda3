import Derived.WalkKit
import Derived.ProofKit
import Derived.Below
import Derived.Lib.Hide
import Derived.Test.YtjemnldcpafepaaProg
import Derived.Test.YtjemnldcpafepaaWWords
import Derived.Test.YtjemnldcpafepaaWLast
import Derived.Test.YtjemnldcpafepaaWMore
/- A node's methods, over the block in which it lies. -/
namespace Go.Proofs.Ytjemnldcpafepaa.Hand
open Go.RowKit Go.Proofs.YtjemnldcpafepaaW.PrintWords Go.Proofs.YtjemnldcpafepaaW.PrintLast Go.Proofs.YtjemnldcpafepaaW.PrintMore
set_option linter.unusedVariables false
set_option linter.unusedSimpArgs false

/-- One block is others, or as it was; all else is as it was. -/
structure UpdC (w w' : World) (b : Nat) (t : TypeId) (cs : Array Value) : Prop where
  os : w'.os = w.os
  tape : w'.tape = w.tape
  output : w'.output = w.output
  size : w'.heap.size = w.heap.size
  here : w'.heap[b]? = some (.cells cs t (0, 0))
  other : ∀ i, i ≠ b → w'.heap[i]? = w.heap[i]?
theorem upd_refl {w : World} {b : Nat} {t : TypeId} {cs : Array Value} (h : w.heap[b]? = some (.cells cs t (0, 0))) : UpdC w w b t cs := ⟨rfl, rfl, rfl, rfl, h, fun _ _ => rfl⟩
theorem upd_drewN {w w' : World} {b : Nat} {t : TypeId} {cs : Array Value} (h : UpdC w w' b t cs) (n : Nat) : UpdC w (w'.drewN n) b t cs := ⟨h.os, h.tape, h.output, h.size, h.here, h.other⟩
theorem upd_drew {w w' : World} {b : Nat} {t : TypeId} {cs : Array Value} (h : UpdC w w' b t cs) : UpdC w w'.drew b t cs := ⟨h.os, h.tape, h.output, h.size, h.here, h.other⟩
theorem upd_set {w w' : World} {b : Nat} {t : TypeId} {cs : Array Value} (h : UpdC w w' b t cs) (i : Nat) (v : Value) : UpdC w (w'.setCell ⟨b, i, none⟩ v) b t (cs.setIfInBounds i v) :=
  ⟨h.os, h.tape, h.output, by simp [World.setCell, h.size], blk_set h.here i v, fun j hj => (Below.heap_setCell w' ⟨b, i, none⟩ v j hj).trans (h.other j hj)⟩
theorem upd_eq {w w' : World} {b : Nat} {t : TypeId} {cs cs' : Array Value} (h : UpdC w w' b t cs) (e : cs = cs') : UpdC w w' b t cs' := e ▸ h
theorem upd_trans {w w1 w2 : World} {b : Nat} {t : TypeId} {cs cs' : Array Value} (h : UpdC w w1 b t cs) (k : UpdC w1 w2 b t cs') : UpdC w w2 b t cs' :=
  ⟨k.os.trans h.os, k.tape.trans h.tape, k.output.trans h.output, k.size.trans h.size, k.here, fun i hi => (k.other i hi).trans (h.other i hi)⟩
/-- A node. -/
structure ND where
  n : Int
  nodes : Int
  root : Bool
  works : Bool
  done : Bool
  parent : Int
def ND.cs (x : ND) : Array Value := #[.int .i64 x.n, .int .i64 x.nodes, .bool x.root, .bool x.works, .bool x.done, .int .i64 x.parent]
def NodeAt (w : World) (b : Nat) (x : ND) : Prop := w.heap[b]? = some (.cells x.cs 39 (0, 0))
abbrev pn (b : Nat) : Value := .pointer (some ⟨b, 0, none⟩)
theorem given_calls (b : Nat) (x : ND) (w : World) (h : NodeAt w b x) :
    Calls Try.prog 22 #[pn b] w fun e w' => e = .returned (.bool (decide (0 < x.nodes))) ∧ ∃ n, w' = w.drewN n := by
  have h1 : w.cell? ⟨b, 1, none⟩ = some (.int .i64 x.nodes) := (blk_cell h 1).trans rfl
  have f1 := blk_frozen h 1
  go_enter Try.func22, Try.ntmps22
  go_wp2
  go_ret
  exact ⟨rfl, by first | exact ⟨0, rfl⟩ | exact ⟨_, rfl⟩⟩
theorem owes_calls (b : Nat) (x : ND) (w : World) (h : NodeAt w b x) :
    Calls Try.prog 23 #[pn b] w fun e w' => e = .returned (.int .i64 x.n) ∧ ∃ n, w' = w.drewN n := by
  have h1 : w.cell? ⟨b, 0, none⟩ = some (.int .i64 x.n) := (blk_cell h 0).trans rfl
  have f1 := blk_frozen h 0
  go_enter Try.func23, Try.ntmps23
  go_wp2
  go_ret
  exact ⟨rfl, by first | exact ⟨0, rfl⟩ | exact ⟨_, rfl⟩⟩
theorem more_calls (b : Nat) (x : ND) (w : World) (h : NodeAt w b x) (h0 : 0 ≤ x.n) (h1 : x.n < 1073741823) :
    Calls Try.prog 24 #[pn b, .int .i64 1] w fun e w' => e = .returned (.bool true) ∧ UpdC w w' b 39 ({x with n := x.n + 1} : ND).cs := by
  have h1' : w.cell? ⟨b, 0, none⟩ = some (.int .i64 x.n) := (blk_cell h 0).trans rfl
  have f1 := blk_frozen h 0
  have c1 : decide (x.n ≤ 1073741823) = true := decide_eq_true (by omega)
  go_enter Try.func24, Try.ntmps24
  go_wp2
  go_ret
  have e : wrap64 (x.n + 1) = x.n + 1 := by unfold wrap64; omega
  refine ⟨by first | rfl | simp, upd_eq (by repeat (first | exact upd_refl h | apply upd_set | apply upd_drewN | apply upd_drew)) ?_⟩
  simp [ND.cs, e]
/-- Facts of all cells. -/
theorem node_cells {w : World} {b : Nat} {x : ND} (h : NodeAt w b x) : w.cell? ⟨b, 0, none⟩ = some (.int .i64 x.n) ∧ w.cell? ⟨b, 1, none⟩ = some (.int .i64 x.nodes) ∧ w.cell? ⟨b, 2, none⟩ = some (.bool x.root) ∧ w.cell? ⟨b, 3, none⟩ = some (.bool x.works) ∧ w.cell? ⟨b, 4, none⟩ = some (.bool x.done) ∧ w.cell? ⟨b, 5, none⟩ = some (.int .i64 x.parent) :=
  ⟨(blk_cell h 0).trans rfl, (blk_cell h 1).trans rfl, (blk_cell h 2).trans rfl, (blk_cell h 3).trans rfl, (blk_cell h 4).trans rfl, (blk_cell h 5).trans rfl⟩
theorem drewN_node {w : World} {b : Nat} {x : ND} (h : NodeAt w b x) (n : Nat) : NodeAt (w.drewN n) b x := h
def ND.take (x : ND) (frm : Int) : ND × Int × Int := if x.done then (x, -1, 3) else if x.works then (x, frm, 0) else ({x with works := true, parent := frm}, -1, 0)
theorem take_calls (b : Nat) (x : ND) (frm : Int) (w : World) (h : NodeAt w b x) (h0 : 0 ≤ frm) (h1 : frm < x.nodes) :
    Calls Try.prog 15 #[pn b, .int .i64 frm] w fun e w' => e = .returned (.tuple #[.int .i64 (x.take frm).2.1, .int .i64 (x.take frm).2.2]) ∧ UpdC w w' b 39 (x.take frm).1.cs := by
  obtain ⟨q0, q1, q2, q3, q4, q5⟩ := node_cells h
  have f0 := blk_frozen h 0; have f1 := blk_frozen h 1; have f2 := blk_frozen h 2; have f3 := blk_frozen h 3; have f4 := blk_frozen h 4; have f5 := blk_frozen h 5
  have g0 : decide (0 < x.nodes) = true := decide_eq_true (by omega)
  have c0 : decide (frm < 0) = false := decide_eq_false (by omega)
  have c1 : decide (x.nodes ≤ frm) = false := decide_eq_false (by omega)
  rcases x with ⟨n, nodes, root, works, done, parent⟩
  cases done
  · cases works
    · go_enter Try.func15, Try.ntmps15
      go_wp2_with (first | (go_at_call 22; refine (given_calls b _ _ (drewN_node h _)).mono ?_; rintro e w1 ⟨rfl, nd, rfl⟩) | (go_at_call 22; refine (given_calls b _ _ h).mono ?_; rintro e w1 ⟨rfl, nd, rfl⟩))
      go_ret2
      exact ⟨by first | rfl | simp [ND.take], upd_eq (by repeat (first | exact upd_refl h | apply upd_set | apply upd_drewN | apply upd_drew)) (by first | rfl | simp [ND.cs, ND.take])⟩
    · go_enter Try.func15, Try.ntmps15
      go_wp2_with (first | (go_at_call 22; refine (given_calls b _ _ h).mono ?_; rintro e w1 ⟨rfl, nd, rfl⟩))
      go_ret2
      exact ⟨by first | rfl | simp [ND.take], upd_eq (by repeat (first | exact upd_refl h | apply upd_set | apply upd_drewN | apply upd_drew)) (by first | rfl | simp [ND.cs, ND.take])⟩
  · go_enter Try.func15, Try.ntmps15
    go_wp2_with (first | (go_at_call 22; refine (given_calls b _ _ h).mono ?_; rintro e w1 ⟨rfl, nd, rfl⟩))
    go_ret2
    exact ⟨by first | rfl | simp [ND.take], upd_eq (by repeat (first | exact upd_refl h | apply upd_set | apply upd_drewN | apply upd_drew)) (by first | rfl | simp [ND.cs, ND.take])⟩
def ND.rest (x : ND) : ND × Int × Int := if x.works = false then (x, -1, 3) else if 0 < x.n then (x, -1, 0) else ({x with works := false, parent := -1, done := x.root}, x.parent, 0)
theorem rest_calls (b : Nat) (x : ND) (w : World) (h : NodeAt w b x) (h1 : 0 < x.nodes) :
    Calls Try.prog 16 #[pn b] w fun e w' => e = .returned (.tuple #[.int .i64 x.rest.2.1, .int .i64 x.rest.2.2]) ∧ UpdC w w' b 39 x.rest.1.cs := by
  obtain ⟨q0, q1, q2, q3, q4, q5⟩ := node_cells h
  have f0 := blk_frozen h 0; have f1 := blk_frozen h 1; have f2 := blk_frozen h 2; have f3 := blk_frozen h 3; have f4 := blk_frozen h 4; have f5 := blk_frozen h 5
  have g0 : decide (0 < x.nodes) = true := decide_eq_true (by omega)
  rcases x with ⟨n, nodes, root, works, done, parent⟩
  cases works
  · go_enter Try.func16, Try.ntmps16
    go_wp2_with (first | (go_at_call 22; refine (given_calls b _ _ h).mono ?_; rintro e w1 ⟨rfl, nd, rfl⟩))
    go_ret2
    exact ⟨by first | rfl | simp [ND.rest], upd_eq (by repeat (first | exact upd_refl h | apply upd_set | apply upd_drewN | apply upd_drew)) (by first | rfl | simp [ND.cs, ND.rest])⟩
  · by_cases c : 0 < n
    · have c0 : decide (0 < n) = true := decide_eq_true c
      go_enter Try.func16, Try.ntmps16
      go_wp2_with (first | (go_at_call 22; refine (given_calls b _ _ h).mono ?_; rintro e w1 ⟨rfl, nd, rfl⟩) | (go_at_call 23; refine (owes_calls b _ _ (drewN_node h _)).mono ?_; rintro e w2 ⟨rfl, nd2, rfl⟩))
      go_ret2
      exact ⟨by simp [ND.rest, c], upd_eq (by repeat (first | exact upd_refl h | apply upd_set | apply upd_drewN | apply upd_drew)) (by simp [ND.cs, ND.rest, c])⟩
    · have c0 : decide (0 < n) = false := decide_eq_false c
      go_enter Try.func16, Try.ntmps16
      go_wp2_with (first | (go_at_call 22; refine (given_calls b _ _ h).mono ?_; rintro e w1 ⟨rfl, nd, rfl⟩) | (go_at_call 23; refine (owes_calls b _ _ (drewN_node h _)).mono ?_; rintro e w2 ⟨rfl, nd2, rfl⟩))
      go_ret2
      have c9 : (0 < n) = False := eq_false (by omega)
      exact ⟨by simp [ND.rest, c9], upd_eq (by repeat (first | exact upd_refl h | apply upd_set | apply upd_drewN | apply upd_drew)) (by simp [ND.cs, ND.rest, c9])⟩
/-- One message is sent. -/
def ND.send (x : ND) : ND × Int := if x.works then ({x with n := x.n + 1}, 0) else (x, 3)
theorem send_calls (b : Nat) (x : ND) (w : World) (h : NodeAt w b x) (h1 : 0 < x.nodes) (h2 : 0 ≤ x.n) (h3 : x.n < 1073741823) :
    Calls Try.prog 17 #[pn b, .int .i64 1] w fun e w' => e = .returned (.int .i64 x.send.2) ∧ UpdC w w' b 39 x.send.1.cs := by
  obtain ⟨q0, q1, q2, q3, q4, q5⟩ := node_cells h
  have f0 := blk_frozen h 0; have f1 := blk_frozen h 1; have f2 := blk_frozen h 2; have f3 := blk_frozen h 3; have f4 := blk_frozen h 4; have f5 := blk_frozen h 5
  have g0 : decide (0 < x.nodes) = true := decide_eq_true (by omega)
  rcases x with ⟨n, nodes, root, works, done, parent⟩
  cases works
  · go_enter Try.func17, Try.ntmps17
    go_wp2_with (first | (go_at_call 22; refine (given_calls b _ _ h).mono ?_; rintro e w1 ⟨rfl, nd, rfl⟩))
    go_ret
    exact ⟨by first | rfl | simp [ND.send], upd_eq (by repeat (first | exact upd_refl h | apply upd_set | apply upd_drewN | apply upd_drew)) (by first | rfl | simp [ND.cs, ND.send])⟩
  · go_enter Try.func17, Try.ntmps17
    go_wp2_with (first | (go_at_call 22; refine (given_calls b _ _ h).mono ?_; rintro e w1 ⟨rfl, nd, rfl⟩) | (go_at_call 24; refine (more_calls b _ _ (drewN_node h _) h2 h3).mono ?_; rintro e w2 ⟨rfl, hu⟩))
    go_ret
    exact ⟨by first | rfl | simp [ND.send], upd_eq (by repeat (first | exact upd_trans (upd_drewN (upd_refl h) _) hu | exact hu | apply upd_drewN | apply upd_drew)) (by first | rfl | simp [ND.cs, ND.send])⟩
def ND.told (x : ND) : ND × Int := if x.n = 0 then (x, 3) else ({x with n := x.n - 1}, 0)
theorem told_calls (b : Nat) (x : ND) (w : World) (h : NodeAt w b x) (h1 : 0 < x.nodes) (h2 : 0 ≤ x.n) (h3 : x.n ≤ 1073741824) :
    Calls Try.prog 18 #[pn b] w fun e w' => e = .returned (.int .i64 x.told.2) ∧ UpdC w w' b 39 x.told.1.cs := by
  obtain ⟨q0, q1, q2, q3, q4, q5⟩ := node_cells h
  have f0 := blk_frozen h 0; have f1 := blk_frozen h 1; have f2 := blk_frozen h 2; have f3 := blk_frozen h 3; have f4 := blk_frozen h 4; have f5 := blk_frozen h 5
  have g0 : decide (0 < x.nodes) = true := decide_eq_true (by omega)
  rcases x with ⟨n, nodes, root, works, done, parent⟩
  by_cases c : n = 0
  · have c0 : (n == 0) = true := beq_iff_eq.mpr c
    go_enter Try.func18, Try.ntmps18
    go_wp2_with (first | (go_at_call 22; refine (given_calls b _ _ h).mono ?_; rintro e w1 ⟨rfl, nd, rfl⟩) | (go_at_call 23; refine (owes_calls b _ _ (drewN_node h _)).mono ?_; rintro e w2 ⟨rfl, nd2, rfl⟩))
    go_ret
    exact ⟨by simp [ND.told, c], upd_eq (by repeat (first | exact upd_refl h | apply upd_set | apply upd_drewN | apply upd_drew)) (by simp [ND.cs, ND.told, c])⟩
  · have c0 : (n == 0) = false := beq_eq_false_iff_ne.mpr c
    go_enter Try.func18, Try.ntmps18
    go_wp2_with (first | (go_at_call 22; refine (given_calls b _ _ h).mono ?_; rintro e w1 ⟨rfl, nd, rfl⟩) | (go_at_call 23; refine (owes_calls b _ _ (drewN_node h _)).mono ?_; rintro e w2 ⟨rfl, nd2, rfl⟩))
    go_ret
    have e : wrap64 (n - 1) = n - 1 := by unfold wrap64; omega
    exact ⟨by simp [ND.told, c], upd_eq (by repeat (first | exact upd_refl h | apply upd_set | apply upd_drewN | apply upd_drew)) (by simp [ND.cs, ND.told, c, e])⟩
theorem nodeOwes_calls (b : Nat) (x : ND) (w : World) (h : NodeAt w b x) (h1 : 0 < x.nodes) :
    Calls Try.prog 19 #[pn b] w fun e w' => e = .returned (.int .i64 x.n) ∧ ∃ n, w' = w.drewN n := by
  obtain ⟨q0, q1, q2, q3, q4, q5⟩ := node_cells h
  have g0 : decide (0 < x.nodes) = true := decide_eq_true (by omega)
  go_enter Try.func19, Try.ntmps19
  go_wp2_with (first | (go_at_call 22; refine (given_calls b _ _ h).mono ?_; rintro e w1 ⟨rfl, nd, rfl⟩) | (go_at_call 23; refine (owes_calls b _ _ (drewN_node h _)).mono ?_; rintro e w2 ⟨rfl, nd2, rfl⟩))
  go_ret
  exact ⟨rfl, by first | exact ⟨_, rfl⟩ | exact ⟨_, World.drewN_drewN _ _ _⟩⟩
theorem works_calls (b : Nat) (x : ND) (w : World) (h : NodeAt w b x) (h1 : 0 < x.nodes) :
    Calls Try.prog 20 #[pn b] w fun e w' => e = .returned (.bool x.works) ∧ ∃ n, w' = w.drewN n := by
  obtain ⟨q0, q1, q2, q3, q4, q5⟩ := node_cells h
  have f3 := blk_frozen h 3
  have g0 : decide (0 < x.nodes) = true := decide_eq_true (by omega)
  go_enter Try.func20, Try.ntmps20
  go_wp2_with (first | (go_at_call 22; refine (given_calls b _ _ h).mono ?_; rintro e w1 ⟨rfl, nd, rfl⟩))
  go_ret
  exact ⟨rfl, by first | exact ⟨_, rfl⟩ | exact ⟨_, World.drewN_drewN _ _ _⟩⟩
theorem done_calls (b : Nat) (x : ND) (w : World) (h : NodeAt w b x) (h1 : 0 < x.nodes) :
    Calls Try.prog 12 #[pn b] w fun e w' => e = .returned (.bool x.done) ∧ ∃ n, w' = w.drewN n := by
  obtain ⟨q0, q1, q2, q3, q4, q5⟩ := node_cells h
  have f3 := blk_frozen h 4
  have g0 : decide (0 < x.nodes) = true := decide_eq_true (by omega)
  go_enter Try.func12, Try.ntmps12
  go_wp2_with (first | (go_at_call 22; refine (given_calls b _ _ h).mono ?_; rintro e w1 ⟨rfl, nd, rfl⟩))
  go_ret
  exact ⟨rfl, by first | exact ⟨_, rfl⟩ | exact ⟨_, World.drewN_drewN _ _ _⟩⟩
/-- A node is made. -/
def ND.new (n : Int) (root : Bool) : ND := ⟨0, n, root, root, false, -1⟩
theorem new_calls (id n : Int) (root : Bool) (w : World) (h1 : 1 ≤ n) (h2 : n ≤ 65) (h3 : 0 ≤ id) (h4 : id < n) :
    Calls Try.prog 21 #[.int .i64 id, .int .i64 n, .bool root] w fun e w' => ∃ b, e = .returned (.tuple #[pn b, .int .i64 0]) ∧ w.heap.size ≤ b ∧ NodeAt w' b (ND.new n root) ∧ Below w.heap.size w w' ∧ w'.heap.size = b + 1 := by
  have c1 : decide (n < 1) = false := decide_eq_false (by omega)
  have c2 : decide (65 < n) = false := decide_eq_false (by omega)
  have c3 : decide (id < 0) = false := decide_eq_false (by omega)
  have c4 : decide (n ≤ id) = false := decide_eq_false (by omega)
  go_enter Try.func21, Try.ntmps21
  go_wp2
  go_ret2
  exact ⟨_, rfl, Nat.le_refl _, blk_new _ _, below_alloc (Below.refl _ _) _, by simp⟩
end Go.Proofs.Ytjemnldcpafepaa.Hand
