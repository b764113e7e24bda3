import Derived.Test.YtjmkmfolpimieaaAbP161
import Derived.Test.YtjmkmfolpimieaaAbSpec
import Derived.Test.YtjmkmfolpimieaaAbIn2
/- sinew/field: a field; has, find, Send, Copy, Arrive, New. -/
namespace Go.Ab
open Go.Proofs Go.RowKit
set_option linter.unusedVariables false
set_option linter.unusedSimpArgs false
set_option maxRecDepth 100000
structure Pk where
  id : Nat
  fr : Int
  to : Int
  bs : List UInt8
def pkC (p : Pk) : List V := [.int .i64 (p.id : Nat), .int .i64 p.fr, .int .i64 p.to, .str p.bs]
def pk0 : Pk := ⟨0, 0, 0, []⟩
def entP (ps : List Pk) : List (V × V) := ps.map fun p => (.int .i64 (p.id : Nat), .agg (pkC p))
structure Fd where
  nodes : Int
  last : Nat
  ps : List Pk
def findP (x : Int) : List Pk → Nat → Option (Nat × Pk)
  | [], _ => none
  | p :: l, i => if x = (p.id : Int) then some (i, p) else findP x l (i + 1)
theorem find_ent (x : Int) : ∀ (ps : List Pk) (j : Nat), findV (.int .i64 x) (entP ps) j = some ((findP x ps j).map fun q => (q.1, .agg (pkC q.2)))
  | [], j => rfl
  | p :: l, j => by
    have ih := find_ent x l (j + 1)
    unfold entP at ih ⊢
    rw [List.map_cons, findV, findP]
    show (match (if IntKind.i64 = IntKind.i64 then some (x == (p.id : Int)) else none) with | some true => _ | some false => _ | none => _) = _
    rw [if_pos rfl]
    by_cases h : x = (p.id : Int)
    · have hb : (x == (p.id : Int)) = true := by simpa using h
      rw [hb, if_pos h]; rfl
    · have hb : (x == (p.id : Int)) = false := by simpa using h
      rw [hb, if_neg h]; exact ih
theorem findP_some {x : Int} : ∀ {ps : List Pk} {j i : Nat} {p : Pk}, findP x ps j = some (i, p) → j ≤ i ∧ ps[i - j]? = some p ∧ x = (p.id : Int)
  | [], j, i, p, h => by cases h
  | q :: l, j, i, p, h => by
    unfold findP at h
    split at h
    · cases h; rename_i e; exact ⟨Nat.le_refl _, by simp, e⟩
    · obtain ⟨h1, h2, h3⟩ := findP_some h
      refine ⟨by omega, ?_, h3⟩
      rw [show i - j = (i - (j + 1)) + 1 by omega, List.getElem?_cons_succ]; exact h2
theorem findP_none {x : Int} : ∀ {ps : List Pk} {j : Nat}, findP x ps j = none → ∀ p ∈ ps, x ≠ (p.id : Int)
  | [], j, h, p, hp => by cases hp
  | q :: l, j, h, p, hp => by
    unfold findP at h
    split at h
    · cases h
    · rename_i e
      rcases List.mem_cons.1 hp with g | g
      · rw [g]; exact e
      · exact findP_none h p g
theorem findP_not {x : Int} {ps : List Pk} {j : Nat} (h : ∀ p ∈ ps, x ≠ (p.id : Int)) : findP x ps j = none := by
  cases hq : findP x ps j with
  | none => rfl
  | some q =>
    obtain ⟨i, p⟩ := q
    obtain ⟨_, h2, h3⟩ := findP_some hq
    exact absurd h3 (h p (List.mem_of_getElem? h2))
/-- What is found, and how that is told. -/
def findR (f : Fd) (x : Int) : Pk × Int := match findP x f.ps 0 with | some (_, p) => (p, 0) | none => (pk0, 3)
def okS (f : Fd) (a b : Int) (s : List UInt8) : Bool := (decide (0 ≤ a) && decide (a < f.nodes)) && (decide (0 ≤ b) && decide (b < f.nodes)) && decide (s.length ≤ 1048640)
def sendF (f : Fd) (a b : Int) (s : List UInt8) : Fd × Nat × Int :=
  if okS f a b s = true then (⟨f.nodes, f.last + 1, f.ps ++ [⟨f.last + 1, a, b, s⟩]⟩, f.last + 1, 0) else (f, 0, 1)
def arrF (f : Fd) (x : Int) : Fd × Pk × Int :=
  match findP x f.ps 0 with | some (i, p) => (⟨f.nodes, f.last, f.ps.eraseIdx i⟩, p, 0) | none => (f, pk0, 3)
def copyF (f : Fd) (x : Int) : Fd × Nat × Int :=
  match findP x f.ps 0 with | some (_, p) => sendF f p.fr p.to p.bs | none => (f, 0, 3)
structure FOK (f : Fd) : Prop where
  pos : 1 ≤ f.nodes
  rise : f.ps.Pairwise (fun p q => p.id < q.id)
  ids : ∀ p ∈ f.ps, 1 ≤ p.id ∧ p.id ≤ f.last
  small : f.last ≤ 10000
theorem rise_len {ps : List Pk} {m : Nat} : ∀ {k : Nat}, ps.Pairwise (fun p q => p.id < q.id) → (∀ p ∈ ps, k < p.id ∧ p.id ≤ m) → ps.length ≤ m - k := by
  induction ps with
  | nil => intro k _ _; simp
  | cons p l ih =>
    intro k h hi
    rw [List.pairwise_cons] at h
    have h1 := hi p (by simp)
    have := ih (k := p.id) h.2 (fun q hq => ⟨h.1 q hq, (hi q (List.mem_cons_of_mem _ hq)).2⟩)
    simp only [List.length_cons]; omega
theorem FOK.len {f : Fd} (h : FOK f) : f.ps.length ≤ f.last := by
  have := rise_len (k := 0) h.rise (fun p hp => ⟨(h.ids p hp).1, (h.ids p hp).2⟩)
  omega
structure FAt (st : St) (d m : Nat) (f : Fd) : Prop where
  ob : st.ob d = some (.cells [.int .i64 f.nodes, .int .i64 (f.last : Nat), .map m])
  mob : st.ob m = some (.map (entP f.ps))
  lt : d < st.n
  mlt : m < st.n
  ne : d ≠ m
  ok : FOK f
theorem FAt.ks {st st' : St} {d m : Nat} {f : Fd} (h : FAt st d m f) (k : Ks st st') : FAt st' d m f :=
  ⟨(k.ob _ h.lt).trans h.ob, (k.ob _ h.mlt).trans h.mob, Nat.lt_of_lt_of_le h.lt k.n, Nat.lt_of_lt_of_le h.mlt k.n, h.ne, h.ok⟩
theorem FAt.ld {st : St} {d m : Nat} {f : Fd} (h : FAt st d m f) : (∀ K, A.load false 1 (.ptr d 0) st K = K (.int .i64 f.nodes) st) ∧ (∀ K, A.load false 1 (.ptr d 1) st K = K (.int .i64 (f.last : Nat)) st) ∧ (∀ K, A.load false 1 (.ptr d 2) st K = K (.map m) st) :=
  ⟨fun K => by simp [h.ob], fun K => by simp [h.ob], fun K => by simp [h.ob]⟩
/-- What a call that writes a field leaves. -/
structure FFr (st st' : St) (d m : Nat) : Prop where
  n : st.n ≤ st'.n
  nt : st.nt ≤ st'.nt
  ob : ∀ i, i < st.n → i ≠ d → i ≠ m → st'.ob i = st.ob i
  tk : ∀ t, t < st.nt → st'.tk t = st.tk t
theorem Ks.ffr {st st' : St} (k : Ks st st') (d m : Nat) : FFr st st' d m := ⟨k.n, k.nt, fun i hi _ _ => k.ob i hi, k.tk⟩
theorem FFr.trans {a b c : St} {d m : Nat} (h : FFr a b d m) (k : FFr b c d m) : FFr a c d m :=
  ⟨Nat.le_trans h.n k.n, Nat.le_trans h.nt k.nt, fun i hi h1 h2 => (k.ob i (Nat.lt_of_lt_of_le hi h.n) h1 h2).trans (h.ob i hi h1 h2), fun t ht => (k.tk t (Nat.lt_of_lt_of_le ht h.nt)).trans (h.tk t ht)⟩
theorem FFr.new {a b : St} {d m : Nat} (h : FFr a b d m) (o : Ob) : FFr a (b.new o) d m := h.trans (((Ks.refl b).new o).ffr d m)
theorem FFr.put {a b : St} {d m j : Nat} (h : FFr a b d m) (hj : j = d ∨ j = m ∨ a.n ≤ j) (o : Ob) : FFr a (b.put j o) d m :=
  ⟨h.n, h.nt, fun i hi h1 h2 => by rw [put_ne _ _ (by omega)]; exact h.ob i hi h1 h2, h.tk⟩
theorem ld4 {st : St} {i : Nat} {p : Pk} (h : st.ob i = some (.cells (pkC p))) (K : V → St → Res) : A.load true 4 (.ptr i 0) st K = K (.agg (pkC p)) st := by simp [h, pkC]
theorem ld4f {st : St} {i : Nat} {p : Pk} (h : st.ob i = some (.cells (pkC p))) : (∀ K : V → St → Res, A.load false 1 (.ptr i 0) st K = K (.int .i64 (p.id : Nat)) st) ∧ (∀ K : V → St → Res, A.load false 1 (.ptr i 1) st K = K (.int .i64 p.fr) st) ∧ (∀ K : V → St → Res, A.load false 1 (.ptr i 2) st K = K (.int .i64 p.to) st) ∧ (∀ K : V → St → Res, A.load false 1 (.ptr i 3) st K = K (.str p.bs) st) :=
  ⟨fun K => by simp [h, pkC], fun K => by simp [h, pkC], fun K => by simp [h, pkC], fun K => by simp [h, pkC]⟩
theorem sv4 {st : St} {i : Nat} {p : Pk} (q : Pk) (h : st.ob i = some (.cells (pkC p))) (K : St → Res) : A.store 4 (.ptr i 0) (.agg (pkC q)) st K = K (st.put i (.cells (pkC q))) := by
  rw [store_agg, h, obo_some, if_pos ⟨rfl, by simp [pkC], rfl⟩]; rfl
theorem bx4 (st : St) (K : V → St → Res) : A.box (.agg [(.int .i64 0), (.int .i64 0), (.int .i64 0), (.str [])]) st K = K (.ptr st.n 0) (st.new (.cells (pkC pk0))) := rfl
theorem bu4 (K : V → Res) : A.build [(.int .i64 0), (.int .i64 0), (.int .i64 0), (.str [])] [] K = K (.agg (pkC pk0)) := rfl
theorem er4 (p : Pk) : (V.agg (pkC p)).er1 = .agg (pkC p) := rfl
theorem key_i (x : Int) : keyB Try.prog 3 (.int .i64 x) = true := by
  unfold keyB; rw [Try.underlying3]; rfl
theorem look_p {st : St} {d m : Nat} {f : Fd} (h : FAt st d m f) (x : Int) (ok : Bool) (K : V → Res) : A.lookupK (keyB Try.prog 3 (.int .i64 x)) (.agg [(.int .i64 0), (.int .i64 0), (.int .i64 0), (.str [])]) ok (.map m) (.int .i64 x) st K = K (if ok then .tup [.agg (pkC (findR f x).1), .bool (decide ((findR f x).2 = 0))] else .agg (pkC (findR f x).1)) := by
  rw [key_i]
  unfold A.lookupK
  rw [if_pos rfl]
  unfold A.lookup findR
  have e := find_ent x f.ps 0
  simp only [h.mob]
  rw [e]
  cases findP x f.ps 0 with
  | none => cases ok <;> rfl
  | some q => cases ok <;> rfl
theorem has_s {st : St} {d m : Nat} {f : Fd} (h : FAt st d m f) (x : Int) : s22 [.ptr d 0, .int .i64 x] st = some (.ret (.bool (decide (0 ≤ x) && decide (x < f.nodes))), st) := by
  rw [s22_eq]
  unfold f22
  obtain ⟨l0, l1, l2⟩ := h.ld
  simp only [eql_ptr, guard_tt, bin_geq]
  unfold g22b10_7
  by_cases h0 : 0 ≤ x
  · simp only [h0, decide_true, guard_tt, nilc_ptr, faddr_ptr, Nat.zero_add, l0, bin_lss, er1_bool, Bool.true_and]
  · simp only [h0, decide_false, guard_ft, er1_bool, Bool.false_and]
theorem find_s {st : St} {d m : Nat} {f : Fd} (h : FAt st d m f) (x : Int) : ∃ st', s23 [.ptr d 0, .int .i64 x] st = some (.ret (.tup [.agg (pkC (findR f x).1), .int .i64 (findR f x).2]), st') ∧ Ks st st' := by
  rw [s23_eq]
  unfold f23
  simp only [bx4]
  have k1 := (Ks.refl st).new (.cells (pkC pk0))
  have h1 := h.ks k1
  obtain ⟨l0, l1, l2⟩ := h1.ld
  have hp := h.ok.pos
  simp only [er1_ptr, er1_int, has_s h1, ret_ret, Int.le_refl, show (0 : Int) < f.nodes from by omega, decide_true, Bool.and_self, un_not, Bool.not_true, cond_false, nilc_ptr, faddr_ptr, Nat.zero_add, l2, look_p h1, if_true, ext_0, ext_1, bx4, new_n]
  have o2 : ((st.new (.cells (pkC pk0))).new (.cells (pkC pk0))).ob (st.n + 1) = some (.cells (pkC pk0)) := by
    have := new_at (st.new (.cells (pkC pk0))) (.cells (pkC pk0)); simpa using this
  have o1 : ((st.new (.cells (pkC pk0))).new (.cells (pkC pk0))).ob st.n = some (.cells (pkC pk0)) := by
    rw [new_ne _ _ (by simp)]; exact new_at _ _
  have k2 := k1.new (.cells (pkC pk0))
  simp only [sv4 _ o2]
  have p2 := put_at ((st.new (.cells (pkC pk0))).new (.cells (pkC pk0))) (st.n + 1) (.cells (pkC (findR f x).1))
  have p1 : (((st.new (.cells (pkC pk0))).new (.cells (pkC pk0))).put (st.n + 1) (.cells (pkC (findR f x).1))).ob st.n = some (.cells (pkC pk0)) := by
    rw [put_ne _ _ (by omega)]; exact o1
  have k3 := k2.put (i := st.n + 1) (by omega) (.cells (pkC (findR f x).1))
  generalize ((st.new (.cells (pkC pk0))).new (.cells (pkC pk0))).put (st.n + 1) (.cells (pkC (findR f x).1)) = st3 at p1 p2 k3 ⊢
  unfold g23b111
  simp only [un_not]
  have hr : findR f x = (findR f x) := rfl
  unfold findR at *
  cases hq : findP x f.ps 0 with
  | none =>
    simp only [hq] at *
    simp only [show decide ((3 : Int) = 0) = false from rfl, Bool.not_false, cond_true, bu4, sv4 _ p1, ld4 (put_at _ _ _), kid_eq, rtmp_some, rcell_some, res_two, er4, er1_int]
    exact ⟨_, rfl, k3.put (Nat.le_refl _) _⟩
  | some q =>
    simp only [hq] at *
    simp only [decide_true, Bool.not_true, cond_false, ld4 p2, sv4 _ p1, ld4 (put_at _ _ _), kid_eq, rtmp_some, rcell_some, res_two, er4, er1_int]
    exact ⟨_, rfl, k3.put (Nat.le_refl _) _⟩
theorem new_s (n : Int) (st : St) : s7 [.int .i64 n] st = some (.ret (if 1 ≤ n ∧ n ≤ 65 then .tup [.ptr (st.n + 1) 0, .int .i64 0] else .tup [.ptr0, .int .i64 1]), if 1 ≤ n ∧ n ≤ 65 then (st.new (.map [])).new (.cells [.int .i64 n, .int .i64 0, .map st.n]) else st) := by
  rw [s7_eq]
  unfold f7
  simp only [bin_lss]
  by_cases h0 : n < 1
  · rw [if_neg (by omega), if_neg (by omega)]
    simp only [h0, decide_true, guard_tf, er1_ptr0, er1_int]
  · simp only [h0, decide_false, guard_ff, bin_gtr]
    by_cases h1 : 65 < n
    · rw [if_neg (by omega), if_neg (by omega)]
      simp only [h1, decide_true, cond_true, er1_ptr0, er1_int]
    · rw [if_pos (by omega), if_pos (by omega)]
      simp only [h1, decide_false, cond_false]
      unfold g7b11
      have b : ∀ K, A.build [.int .i64 0, .int .i64 0, .map0] [(0, 1, .int .i64 n), (2, 1, .map st.n)] K = K (.agg [.int .i64 n, .int .i64 0, .map st.n]) := fun K => rfl
      have bx : ∀ K, A.box (.agg [.int .i64 n, .int .i64 0, .map st.n]) (st.new (.map [])) K = K (.ptr (st.n + 1) 0) ((st.new (.map [])).new (.cells [.int .i64 n, .int .i64 0, .map st.n])) := fun K => by
        have : (st.new (.map [])).n = st.n + 1 := by simp
        rw [← this]; rfl
      simp only [A.mkmap, b, bx, er1_ptr, er1_int]
theorem new_f (n : Int) (hn : 1 ≤ n) (st : St) : FAt ((st.new (.map [])).new (.cells [.int .i64 n, .int .i64 0, .map st.n])) (st.n + 1) st.n ⟨n, 0, []⟩ := by
  have e : (st.new (.map [])).n = st.n + 1 := by simp
  exact ⟨by rw [← e]; exact new_at _ _, by rw [new_ne _ _ (by omega)]; exact new_at _ _, by simp, by simp; omega, by omega, ⟨hn, .nil, by simp, by simp⟩⟩
theorem entP_snoc (ps : List Pk) (p : Pk) : entP ps ++ [(.int .i64 (p.id : Nat), .agg (pkC p))] = entP (ps ++ [p]) := by simp [entP]
theorem FOK.send {f : Fd} (h : FOK f) (hl : f.last ≤ 9999) (a b : Int) (s : List UInt8) : FOK (sendF f a b s).1 := by
  unfold sendF
  split
  · refine ⟨h.pos, ?_, ?_, by show f.last + 1 ≤ _; omega⟩
    · rw [List.pairwise_append]
      refine ⟨h.rise, by simp, fun p hp q hq => ?_⟩
      rw [List.mem_singleton.1 hq]
      have := (h.ids p hp).2
      show p.id < f.last + 1
      omega
    · intro p hp
      rcases List.mem_append.1 hp with g | g
      · have := h.ids p g
        show 1 ≤ p.id ∧ p.id ≤ f.last + 1
        omega
      · rw [List.mem_singleton.1 g]
        show 1 ≤ f.last + 1 ∧ f.last + 1 ≤ f.last + 1
        omega
  · exact h
theorem send_s {st : St} {d m : Nat} {f : Fd} (h : FAt st d m f) (hl : f.last ≤ 9999) (a b : Int) (s : List UInt8) :
    ∃ st', s9 [.ptr d 0, .int .i64 a, .int .i64 b, .str s] st = some (.ret (.tup [.int .i64 ((sendF f a b s).2.1 : Nat), .int .i64 (sendF f a b s).2.2]), st') ∧ FAt st' d m (sendF f a b s).1 ∧ FFr st st' d m := by
  have hok := h.ok.send hl a b s
  rw [s9_eq]
  unfold f9
  have hlen := h.ok.len
  have bad : (sendF f a b s) = (f, 0, 1) → ∃ st', some (Out.ret (.tup [.int .i64 0, .int .i64 1]), st) = some (.ret (.tup [.int .i64 ((sendF f a b s).2.1 : Nat), .int .i64 (sendF f a b s).2.2]), st') ∧ FAt st' d m (sendF f a b s).1 ∧ FFr st st' d m := fun e => by
    rw [e]; exact ⟨st, rfl, h, (Ks.refl st).ffr _ _⟩
  simp only [er1_ptr, er1_int, er1_str, has_s h, ret_ret, un_not]
  cases ha : (decide (0 ≤ a) && decide (a < f.nodes)) with
  | false =>
    simp only [Bool.not_false, guard_tf]
    unfold g9b1000_11
    simp only [guard_tf]
    unfold g9b1001
    simp only [cond_true, er1_int]
    exact bad (by unfold sendF okS; rw [ha]; rfl)
  | true =>
    simp only [Bool.not_true, guard_ff]
    cases hb : (decide (0 ≤ b) && decide (b < f.nodes)) with
    | false =>
      simp only [Bool.not_false]
      unfold g9b1000_11
      simp only [guard_tf]
      unfold g9b1001
      simp only [cond_true, er1_int]
      exact bad (by unfold sendF okS; rw [ha, hb]; rfl)
    | true =>
      simp only [Bool.not_true]
      unfold g9b1000_11
      simp only [guard_ff, lenS_str, bin_gtr]
      unfold g9b1001
      by_cases hs : s.length ≤ 1048640
      · have e : sendF f a b s = (⟨f.nodes, f.last + 1, f.ps ++ [⟨f.last + 1, a, b, s⟩]⟩, f.last + 1, 0) := by
          unfold sendF okS; rw [ha, hb]; simp only [hs, decide_true, Bool.and_self, if_true]
        rw [e] at hok ⊢
        obtain ⟨l0, l1, l2⟩ := h.ld
        have lm : ∀ K, A.lenM (.map m) st K = K (.int .i64 (f.ps.length : Nat)) := fun K => by
          simp [A.lenM, h.mob, entP]
        simp only [show ¬ (1048640 : Int) < (s.length : Int) from by omega, decide_false, cond_false, nilc_ptr, faddr_ptr, Nat.zero_add, l2, lm, bin_geq, show ¬ (16384 : Int) ≤ (f.ps.length : Int) from by omega]
        unfold g9b11
        have e1 : ∀ K, A.bin .add (.int .i64 (f.last : Nat)) (.int .i64 1) K = K (.int .i64 ((f.last + 1 : Nat) : Int)) := fun K => bin_inc (by omega) K
        have sv : ∀ K, A.store 1 (.ptr d 1) (.int .i64 ((f.last + 1 : Nat) : Int)) st K = K (st.put d (.cells [.int .i64 f.nodes, .int .i64 ((f.last + 1 : Nat) : Int), .map m])) := fun K => by
          rw [store_int, h.ob]; rfl
        simp only [nilc_ptr, faddr_ptr, Nat.zero_add, l1, e1, sv]
        unfold g9b111
        have o2 := put_at st d (.cells [.int .i64 f.nodes, .int .i64 ((f.last + 1 : Nat) : Int), .map m])
        have m2 : (st.put d (.cells [.int .i64 f.nodes, .int .i64 ((f.last + 1 : Nat) : Int), .map m])).ob m = some (.map (entP f.ps)) := by rw [put_ne _ _ (Ne.symm h.ne)]; exact h.mob
        have fr2 := ((Ks.refl st).ffr d m).put (j := d) (.inl rfl) (.cells [.int .i64 f.nodes, .int .i64 ((f.last + 1 : Nat) : Int), .map m])
        have n2 : (st.put d (.cells [.int .i64 f.nodes, .int .i64 ((f.last + 1 : Nat) : Int), .map m])).n = st.n := by simp
        generalize st.put d (.cells [.int .i64 f.nodes, .int .i64 ((f.last + 1 : Nat) : Int), .map m]) = st2 at o2 m2 fr2 n2 ⊢
        have w1 : ∀ K, A.load false 1 (.ptr d 1) st2 K = K (.int .i64 ((f.last + 1 : Nat) : Int)) st2 := fun K => by simp [o2]
        have w2 : ∀ K, A.load false 1 (.ptr d 2) st2 K = K (.map m) st2 := fun K => by simp [o2]
        have bu : ∀ K, A.build [(.int .i64 0), (.int .i64 0), (.int .i64 0), (.str [])] [(0, 1, .int .i64 ((f.last + 1 : Nat) : Int)), (1, 1, .int .i64 a), (2, 1, .int .i64 b), (3, 1, .str s)] K = K (.agg (pkC ⟨f.last + 1, a, b, s⟩)) := fun K => rfl
        have hup : ∀ K, A.mapUpdK (keyB Try.prog 3 (.int .i64 ((f.last + 1 : Nat) : Int))) (.map m) (.int .i64 ((f.last + 1 : Nat) : Int)) (.agg (pkC ⟨f.last + 1, a, b, s⟩)) st2 K = K (st2.put m (.map (entP (f.ps ++ [⟨f.last + 1, a, b, s⟩])))) := fun K => by
          rw [key_i]
          unfold A.mapUpdK
          rw [if_pos rfl]
          unfold A.mapUpd
          simp only [m2]
          rw [find_ent, findP_not (by intro p hp; have := (h.ok.ids p hp).2; omega)]
          show K _ = _
          rw [← entP_snoc]
        simp only [nilc_ptr, faddr_ptr, Nat.zero_add, w2, w1, bu, hup, kid_eq, noP_ret]
        unfold g9b1111
        have w3 : ∀ K, A.load false 1 (.ptr d 1) (st2.put m (.map (entP (f.ps ++ [⟨f.last + 1, a, b, s⟩])))) K = K (.int .i64 ((f.last + 1 : Nat) : Int)) (st2.put m (.map (entP (f.ps ++ [⟨f.last + 1, a, b, s⟩])))) := fun K => by simp [put_ne _ _ h.ne, o2]
        simp only [nilc_ptr, faddr_ptr, Nat.zero_add, w3, er1_int]
        have := h.lt; have := h.mlt
        exact ⟨_, rfl, ⟨by rw [put_ne _ _ h.ne]; exact o2, put_at _ _ _, by simp; omega, by simp; omega, h.ne, hok⟩, fr2.put (.inr (.inl rfl)) _⟩
      · simp only [show (1048640 : Int) < (s.length : Int) from by omega, decide_true, cond_true, er1_int]
        exact bad (by unfold sendF okS; rw [ha, hb]; simp [hs])
end Go.Ab
