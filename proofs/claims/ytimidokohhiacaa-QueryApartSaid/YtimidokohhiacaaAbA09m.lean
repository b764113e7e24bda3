import Derived.Test.YtimidokohhiacaaAbP09r
import Derived.Test.YtimidokohhiacaaAbA09j
/- sinewref09: Same. -/
namespace Go.Ab
open Go.Proofs Go.RowKit
set_option linter.unusedVariables false
set_option linter.unusedSimpArgs false
set_option maxRecDepth 100000
def sameP : Pth → Pth → Bool
  | .mk k w l, .mk k' w' l' => (k == k') && ((w == w') && sameK l l')
where sameK : List Pth → List Pth → Bool
  | [], [] => true
  | p :: l, q :: m => sameP p q && sameK l m
  | _, _ => false
abbrev sameK := sameP.sameK
theorem sameP_eq (k k' : Int) (w w' : List UInt8) (l l' : List Pth) : sameP (.mk k w l) (.mk k' w' l') = ((k == k') && ((w == w') && sameK l l')) := rfl
theorem sameK_cons (p q : Pth) (l m : List Pth) : sameK (p :: l) (q :: m) = (sameP p q && sameK l m) := rfl
mutual
theorem sameP_iff : ∀ (p q : Pth), sameP p q = true ↔ p = q
  | .mk k w l, .mk k' w' l' => by
    rw [sameP_eq, Bool.and_eq_true, Bool.and_eq_true, beq_iff_eq, beq_iff_eq, sameK_iff l l']
    constructor
    · rintro ⟨rfl, rfl, rfl⟩; rfl
    · intro h; cases h; exact ⟨rfl, rfl, rfl⟩
theorem sameK_iff : ∀ (l m : List Pth), sameK l m = true ↔ l = m
  | [], [] => by show (true = true) ↔ _; simp
  | [], q :: m => by show (false = true) ↔ _; simp
  | p :: l, [] => by show (false = true) ↔ _; simp
  | p :: l, q :: m => by
    rw [sameK_cons, Bool.and_eq_true, sameP_iff p q, sameK_iff l m]
    constructor
    · rintro ⟨rfl, rfl⟩; rfl
    · intro h; cases h; exact ⟨rfl, rfl⟩
end
theorem sameK_len : ∀ (l m : List Pth), l.length ≠ m.length → sameK l m = false
  | [], [], h => absurd rfl h
  | [], q :: m, _ => rfl
  | p :: l, [], _ => rfl
  | p :: l, q :: m, h => by rw [sameK_cons, sameK_len l m (by simpa using h), Bool.and_false]
def sameTm (a b : Tm) : Bool := (a.v == b.v) && (a.n == b.n)
def sameAt (a b : AtP) : Bool := sameTm a.s b.s && (sameTm a.o b.o && sameP a.p b.p)
def sameC (a b : Chg) : Bool := (a.gone == b.gone) && ((a.s == b.s) && ((a.p == b.p) && (a.o == b.o)))
def sameL {α : Type} (f : α → α → Bool) : List α → List α → Bool
  | [], [] => true
  | a :: l, b :: m => f a b && sameL f l m
  | _, _ => false
theorem sameL_len {α : Type} (f : α → α → Bool) : ∀ (l m : List α), l.length ≠ m.length → sameL f l m = false
  | [], [], h => absurd rfl h
  | [], q :: m, _ => rfl
  | p :: l, [], _ => rfl
  | p :: l, q :: m, h => by rw [sameL, sameL_len f l m (by simpa using h), Bool.and_false]
theorem sameL_iff {α : Type} {f : α → α → Bool} (h : ∀ a b, f a b = true ↔ a = b) : ∀ (l m : List α), sameL f l m = true ↔ l = m
  | [], [] => by simp [sameL]
  | [], q :: m => by simp [sameL]
  | p :: l, [] => by simp [sameL]
  | p :: l, q :: m => by rw [sameL, Bool.and_eq_true, h, sameL_iff h l m]; simp
theorem sameL_drop {α : Type} (f : α → α → Bool) {l m : List α} {i : Nat} (h : i < l.length) (h2 : i < m.length) : sameL f (l.drop i) (m.drop i) = (f l[i] m[i] && sameL f (l.drop (i + 1)) (m.drop (i + 1))) := by
  rw [List.drop_eq_getElem_cons h, List.drop_eq_getElem_cons h2]; rfl
def sameR (a b : Rq) : Bool := (a.kind == b.kind) && (sameL (fun x y : List UInt8 => x == y) a.vars b.vars && (sameL sameAt a.atoms b.atoms && sameL sameC a.ch b.ch))
theorem sameR_iff (a b : Rq) : sameR a b = true ↔ a = b := by
  have h1 : ∀ x y : Tm, sameTm x y = true ↔ x = y := fun x y => by
    unfold sameTm; cases x; cases y; simp
  have h2 : ∀ x y : AtP, sameAt x y = true ↔ x = y := fun x y => by
    unfold sameAt; rw [Bool.and_eq_true, Bool.and_eq_true, h1, h1, sameP_iff]; cases x; cases y; simp
    exact fun _ => And.comm
  have h3 : ∀ x y : Chg, sameC x y = true ↔ x = y := fun x y => by
    unfold sameC; cases x; cases y; simp
  unfold sameR
  rw [Bool.and_eq_true, Bool.and_eq_true, Bool.and_eq_true, beq_iff_eq, sameL_iff (fun x y => beq_iff_eq), sameL_iff h2, sameL_iff h3]
  cases a; cases b; simp
/-! the walk -/
theorem fields_two {l : List Field} {a b : TypeId} (h : l.map (·.type) = [a, b]) : ∃ f1 f2, l = [f1, f2] ∧ f1.type = a ∧ f2.type = b := by
  match l, h with
  | [f1, f2], h => simp at h; exact ⟨f1, f2, rfl, h.1, h.2⟩
theorem fields_three {l : List Field} {a b c : TypeId} (h : l.map (·.type) = [a, b, c]) : ∃ f1 f2 f3, l = [f1, f2, f3] ∧ f1.type = a ∧ f2.type = b ∧ f3.type = c := by
  match l, h with
  | [f1, f2, f3], h => simp at h; exact ⟨f1, f2, f3, rfl, h.1, h.2.1, h.2.2⟩
theorem eqs63 (a b : Tm) (K : V → Res) : A.eqS Try.prog 63 true (tmV a) (tmV b) K = K (.bool (!sameTm a b)) := by
  unfold A.eqS tmV
  rw [if_neg (by rw [show plainS Try.prog 63 = false by kernel_rfl]; simp), if_pos (show plainS2 Try.prog 63 = true by kernel_rfl)]
  obtain ⟨f1, f2, e, t1, t2⟩ := fields_two (show (Try.prog.fieldsOf 63).toList.map (·.type) = [4, 9] by kernel_rfl)
  have k4 : keyK3 Try.prog 4 = true := by kernel_rfl
  have k9 : keyK3 Try.prog 9 = true := by kernel_rfl
  have kb : ∀ x : Bool, keyB3 Try.prog 4 (.bool x) = true := fun x => by unfold keyB3; rw [Try.underlying4]
  have ks : ∀ x, keyB3 Try.prog 9 (.str x) = true := fun x => by unfold keyB3; rw [Try.underlying9]
  have q1 : ∀ x y : Bool, keq3 (.bool x) (.bool y) = some (x == y) := fun x y => rfl
  have q2 : ∀ x y : List UInt8, keq3 (.str x) (.str y) = some (x == y) := fun x y => by show some (decide (x = y)) = _; congr 1; rw [Bool.eq_iff_iff]; simp
  have ke : eqF2 Try.prog (Try.prog.fieldsOf 63).toList [.bool a.v, .str a.n] [.bool b.v, .str b.n] = some (sameTm a b) := by
    rw [e]
    simp only [eqF2, t1, t2, k4, k9, kb, ks, q1, q2, if_true, Bool.and_self, Bool.and_true]
    rfl
  simp only [ke, if_true]
theorem eqs46 (a b : Chg) (K : V → Res) : A.eqS Try.prog 46 true (chV a) (chV b) K = K (.bool (!sameC a b)) := by
  unfold A.eqS chV chC
  rw [if_neg (by rw [show plainS Try.prog 46 = false by kernel_rfl]; simp), if_pos (show plainS2 Try.prog 46 = true by kernel_rfl)]
  obtain ⟨t, ht⟩ : ∃ t, (Try.prog.fieldsOf 46).toList.map (·.type) = [4, t] ∧ keyK3 Try.prog t = false ∧ Try.prog.cellsOf t = 3 ∧ (Try.prog.fieldsOf t).toList.map (·.type) = [9, 9, 9] := by
    refine ⟨((Try.prog.fieldsOf 46).toList.map (·.type)).getD 1 0, ?_, ?_, ?_, ?_⟩ <;> kernel_rfl
  obtain ⟨h1, h2, h3, h4⟩ := ht
  obtain ⟨f1, f2, e, t1, t2⟩ := fields_two h1
  obtain ⟨g1, g2, g3, e2, u1, u2, u3⟩ := fields_three h4
  have k4 : keyK3 Try.prog 4 = true := by kernel_rfl
  have kb : ∀ x : Bool, keyB3 Try.prog 4 (.bool x) = true := fun x => by unfold keyB3; rw [Try.underlying4]
  have ks : ∀ x, keyB Try.prog 9 (.str x) = true := fun x => by unfold keyB; rw [Try.underlying9]; rfl
  have q1 : ∀ x y : Bool, keq3 (.bool x) (.bool y) = some (x == y) := fun x y => rfl
  have q2 : ∀ x y : List UInt8, keq (.str x) (.str y) = some (x == y) := fun x y => by show some (decide (x = y)) = _; congr 1; rw [Bool.eq_iff_iff]; simp
  have ke : eqF2 Try.prog (Try.prog.fieldsOf 46).toList [.bool a.gone, .str a.s, .str a.p, .str a.o] [.bool b.gone, .str b.s, .str b.p, .str b.o] = some (sameC a b) := by
    rw [e]
    have hf : eqF Try.prog (Try.prog.fieldsOf t).toList [.str a.s, .str a.p, .str a.o] [.str b.s, .str b.p, .str b.o] = some ((a.s == b.s) && ((a.p == b.p) && (a.o == b.o))) := by
      rw [e2]
      simp only [eqF, u1, u2, u3, ks, q2, if_true, Bool.and_self, Bool.and_true]
    have hf' : eqF2 Try.prog [f2] [.str a.s, .str a.p, .str a.o] [.str b.s, .str b.p, .str b.o] = some ((a.s == b.s) && ((a.p == b.p) && (a.o == b.o))) := by
      rw [eqF2]
      rw [t2, h2, h3, if_neg Bool.false_ne_true, if_pos ⟨by simp, by simp⟩]
      show (match eqF Try.prog (Try.prog.fieldsOf t).toList [.str a.s, .str a.p, .str a.o] [.str b.s, .str b.p, .str b.o], eqF2 Try.prog [] [] [] with | some x, some y => some (x && y) | _, _ => none) = _
      rw [hf]
      simp [eqF2]
    rw [eqF2, t1, k4, if_pos rfl]
    simp only [kb, q1, if_true, Bool.and_self, hf']
    rfl
  simp only [ke, if_true]
theorem samep_loop {R : Fn} {c d : Nat} {st0 : St} {l m : List Pth} (hl : l.length = m.length) (hlen : l.length ≤ 1000000000) (hc : c < st0.n) (hd : d < st0.n) {k k' : Int} {w w' : List UInt8} (oc : st0.ob c = some (.cells (pthC (.mk k w l)))) (od : st0.ob d = some (.cells (pthC (.mk k' w' m))))
    (hR : ∀ p ∈ l, ∀ q st, R [p.v, q.v] st = some (.ret (.bool (sameP p q)), st)) :
    ∀ (n i : Nat) (st : St), i ≤ l.length → l.length < n + i → Ks st0 st → ∃ st', g30b11010 R n (.ptr c 0) (.ptr d 0) (.int .i64 (i : Nat)) st = some (.ret (.bool (sameK (l.drop i) (m.drop i))), st') ∧ Ks st0 st' := by
  intro n
  induction n with
  | zero => intro i st hi hn; omega
  | succ n ih =>
    intro i st hi hn hk
    rw [g30b11010]
    have oc' := (hk.ob c hc).trans oc
    have od' := (hk.ob d hd).trans od
    have w1 : ∀ K : V → St → Res, A.load false 1 (.ptr c 2) st K = K (.lst (l.map Pth.v) 0) st := fun K => by rw [load_ob, oc']; rfl
    have w2 : ∀ K : V → St → Res, A.load false 1 (.ptr d 2) st K = K (.lst (m.map Pth.v) 0) st := fun K => by rw [load_ob, od']; rfl
    simp only [faddr_ptr, Nat.zero_add, w1, lenL_lst, List.length_map, bin_lss]
    by_cases hil : i < l.length
    · have e4 : ∀ K, A.bin .add (.int .i64 (i : Nat)) (.int .i64 1) K = K (.int .i64 ((i + 1 : Nat) : Int)) := fun K => bin_inc (by omega) K
      simp only [show ((i : Int) < (l.length : Int)) from by omega, decide_true, cond_true, w2, iaddr_pth 0 hil, iaddr_pth 0 (show i < m.length by omega), load_pth, pth_er, hR l[i] (List.getElem_mem hil), kid_eq, ret_ret, un_not]
      rw [List.drop_eq_getElem_cons hil, List.drop_eq_getElem_cons (show i < m.length by omega), sameK_cons]
      cases hs : sameP l[i] m[i] with
      | false => exact ⟨st, rfl, hk⟩
      | true =>
        rw [Bool.not_true, cond_false, e4, Bool.true_and]
        exact ih (i + 1) st (by omega) (by omega) hk
    · have : i = l.length := by omega
      subst this
      simp only [Int.lt_irrefl, decide_false, cond_false, er1_bool]
      rw [List.drop_length, hl, List.drop_length]
      exact ⟨st, rfl, hk⟩
theorem samep_n : ∀ (n : Nat) (p q : Pth), p.sz.2 ≤ n → p.nd ≤ 1000000 → ∀ st : St, s30n n [p.v, q.v] st = some (.ret (.bool (sameP p q)), st)
  | 0, p, q, h, _, st => by cases p; rw [sz_eq] at h; simp at h
  | n + 1, .mk k w l, .mk k' w' m, h1, h4, st => by
    rw [s30n_eq]
    have hs := sz_eq k w l
    have hn := nd_eq k w l
    rw [hs] at h1
    rw [hn] at h4
    simp only at h1
    have hll := ndl_len l
    have hR : ∀ p ∈ l, ∀ q st, s30n n [p.v, q.v] st = some (.ret (.bool (sameP p q)), st) := fun p hp q st => by
      have a := szl_mem hp
      have b := ndl_mem hp
      exact samep_n n p q (by omega) (by omega) st
    have main : ∃ st', f30 (s30n n) (Pth.mk k w l).v (Pth.mk k' w' m).v st = some (.ret (.bool (sameP (.mk k w l) (.mk k' w' m))), st') ∧ Ks st st' := by
      unfold f30
      have bx : ∀ (p : Pth) (s : St) (K : V → St → Res), A.box p.v s K = K (.ptr s.n 0) (s.new (.cells (pthC p))) := fun p s K => by rw [pth_c]; rfl
      rw [bx, bx]
      have k1 : Ks st ((st.new (.cells (pthC (.mk k w l)))).new (.cells (pthC (.mk k' w' m)))) := ((Ks.refl st).new _).new _
      have n1 : ((st.new (.cells (pthC (.mk k w l)))).new (.cells (pthC (.mk k' w' m)))).n = st.n + 2 := by simp
      have oc : ((st.new (.cells (pthC (.mk k w l)))).new (.cells (pthC (.mk k' w' m)))).ob st.n = some (.cells (pthC (.mk k w l))) := by rw [new_ne _ _ (by simp)]; exact new_at _ _
      have od : ((st.new (.cells (pthC (.mk k w l)))).new (.cells (pthC (.mk k' w' m)))).ob (st.n + 1) = some (.cells (pthC (.mk k' w' m))) := new_at (st.new (.cells (pthC (.mk k w l)))) _
      simp only [new_n]
      generalize (st.new (.cells (pthC (.mk k w l)))).new (.cells (pthC (.mk k' w' m))) = s1 at k1 n1 oc od ⊢
      have w0 : ∀ K : V → St → Res, A.load false 1 (.ptr st.n 0) s1 K = K (.int .i64 k) s1 := fun K => by rw [load_ob, oc]; rfl
      have w1 : ∀ K : V → St → Res, A.load false 1 (.ptr st.n 1) s1 K = K (.str w) s1 := fun K => by rw [load_ob, oc]; rfl
      have w2 : ∀ K : V → St → Res, A.load false 1 (.ptr st.n 2) s1 K = K (.lst (l.map Pth.v) 0) s1 := fun K => by rw [load_ob, oc]; rfl
      have x0 : ∀ K : V → St → Res, A.load false 1 (.ptr (st.n + 1) 0) s1 K = K (.int .i64 k') s1 := fun K => by rw [load_ob, od]; rfl
      have x1 : ∀ K : V → St → Res, A.load false 1 (.ptr (st.n + 1) 1) s1 K = K (.str w') s1 := fun K => by rw [load_ob, od]; rfl
      have x2 : ∀ K : V → St → Res, A.load false 1 (.ptr (st.n + 1) 2) s1 K = K (.lst (m.map Pth.v) 0) s1 := fun K => by rw [load_ob, od]; rfl
      simp only [faddr_ptr, Nat.zero_add, w0, x0, eql_int, if_true]
      rw [sameP_eq]
      unfold g30b100_6
      by_cases hk : k = k'
      case neg =>
        rw [show (k != k') = true from bne_iff_ne.2 hk, guard_tf, show (k == k') = false from beq_eq_false_iff_ne.2 hk, Bool.false_and]
        unfold g30b100_13
        rw [guard_tf]
        exact ⟨s1, rfl, k1⟩
      rw [show (k != k') = false from by rw [hk]; exact bne_self_eq_false _, guard_ff, show (k == k') = true from by rw [hk]; exact beq_self_eq_true _, Bool.true_and]
      simp only [faddr_ptr, Nat.zero_add, w1, x1, eql_str, if_true]
      unfold g30b100_13
      by_cases hw : w = w'
      case neg =>
        rw [show (w != w') = true from bne_iff_ne.2 hw, guard_tf, show (w == w') = false from beq_eq_false_iff_ne.2 hw, Bool.false_and]
        exact ⟨s1, rfl, k1⟩
      rw [show (w != w') = false from by rw [hw]; exact bne_self_eq_false _, guard_ff, show (w == w') = true from by rw [hw]; exact beq_self_eq_true _, Bool.true_and]
      simp only [faddr_ptr, Nat.zero_add, w2, x2, lenL_lst, List.length_map, eql_int, if_true]
      by_cases hlm : l.length = m.length
      case neg =>
        rw [show (((l.length : Nat) : Int) != ((m.length : Nat) : Int)) = true from bne_iff_ne.2 (by omega), cond_true, sameK_len l m hlm]
        exact ⟨s1, rfl, k1⟩
      rw [show (((l.length : Nat) : Int) != ((m.length : Nat) : Int)) = false from by rw [hlm]; exact bne_self_eq_false _, cond_false]
      unfold g30b11
      obtain ⟨st', q1, q2⟩ := samep_loop (k := k) (k' := k') (w := w) (w' := w') (st0 := s1) hlm (by omega) (show st.n < s1.n by omega) (show st.n + 1 < s1.n by omega) oc od hR big 0 s1 (by omega) (lt_big (by omega)) (Ks.refl s1)
      exact ⟨st', q1, k1.trans q2⟩
    obtain ⟨st', q1, q2⟩ := main
    exact fg_of q1 q2 rfl
theorem samep_s (p q : Pth) (h1 : p.sz.2 ≤ 1000000) (h2 : p.nd ≤ 1000000) (st : St) : s30 [p.v, q.v] st = some (.ret (.bool (sameP p q)), st) := by
  rw [s30_n]; exact samep_n big p q (Nat.le_of_lt (lt_big (by omega))) h2 st
structure RqAt (st0 : St) (c d : Nat) (a b : Rq) : Prop where
  hc : c < st0.n
  hd : d < st0.n
  oc : st0.ob c = some (.cells (rqC a))
  od : st0.ob d = some (.cells (rqC b))
theorem rq_load {st : St} {c : Nat} {a : Rq} (h : st.ob c = some (.cells (rqC a))) : (∀ K : V → St → Res, A.load false 1 (.ptr c 0) st K = K (.int .i64 a.kind) st) ∧ (∀ K : V → St → Res, A.load false 1 (.ptr c 1) st K = K (.lst (strsV a.vars) 0) st) ∧ (∀ K : V → St → Res, A.load false 1 (.ptr c 2) st K = K (.lst (a.atoms.map atpV) 0) st) ∧ (∀ K : V → St → Res, A.load false 1 (.ptr c 3) st K = K (.lst (a.ch.map chV) 0) st) :=
  ⟨fun K => by rw [load_ob, h]; rfl, fun K => by rw [load_ob, h]; rfl, fun K => by rw [load_ob, h]; rfl, fun K => by rw [load_ob, h]; rfl⟩
theorem iaddr_ch {l : List Chg} {i : Nat} (t : Nat) (h : i < l.length) (K : V → Res) : A.iaddr 4 (.lst (l.map chV) t) (.int .i64 (i : Nat)) K = K (.lptr (chC l[i])) :=
  iaddr_lst (v := chV l[i]) K (by simp [h]) rfl
theorem samec_loop {c d : Nat} {st0 : St} {a b : Rq} (h : RqAt st0 c d a b) (hl : a.ch.length = b.ch.length) (hlen : a.ch.length ≤ 1000000000) :
    ∀ (n i : Nat) (st : St), i ≤ a.ch.length → a.ch.length < n + i → Ks st0 st → ∃ st', g15b1111010 n (.ptr c 0) (.ptr d 0) (.int .i64 (i : Nat)) st = some (.ret (.bool (sameL sameC (a.ch.drop i) (b.ch.drop i))), st') ∧ Ks st0 st' := by
  intro n
  induction n with
  | zero => intro i st hi hn; omega
  | succ n ih =>
    intro i st hi hn hk
    rw [g15b1111010]
    obtain ⟨_, _, _, w1⟩ := rq_load ((hk.ob c h.hc).trans h.oc)
    obtain ⟨_, _, _, w2⟩ := rq_load ((hk.ob d h.hd).trans h.od)
    simp only [faddr_ptr, Nat.zero_add, w1, lenL_lst, List.length_map, bin_lss]
    by_cases hil : i < a.ch.length
    · have e4 : ∀ K, A.bin .add (.int .i64 (i : Nat)) (.int .i64 1) K = K (.int .i64 ((i + 1 : Nat) : Int)) := fun K => bin_inc (by omega) K
      have ld : ∀ (x : Chg) (s : St) K, A.load true 4 (.lptr (chC x)) s K = K (chV x) s := fun x s K => by rw [load_lptrA]; rfl
      simp only [show ((i : Int) < (a.ch.length : Int)) from by omega, decide_true, cond_true, w2, iaddr_ch 0 hil, iaddr_ch 0 (show i < b.ch.length by omega), ld, eqs46]
      rw [sameL_drop sameC hil (show i < b.ch.length by omega)]
      cases hs : sameC a.ch[i] b.ch[i] with
      | false => exact ⟨st, rfl, hk⟩
      | true =>
        rw [Bool.not_true, cond_false, e4, Bool.true_and]
        exact ih (i + 1) st (by omega) (by omega) hk
    · have : i = a.ch.length := by omega
      subst this
      simp only [Int.lt_irrefl, decide_false, cond_false, er1_bool]
      rw [List.drop_length, hl, List.drop_length]
      exact ⟨st, rfl, hk⟩
def Z7 : List V := [(.bool false), (.str []), (.int .i64 0), (.str []), (.lst [] 1), (.bool false), (.str [])]
theorem ld_at (x : AtP) (s : St) (K : V → St → Res) : A.load true 7 (.lptr (atpC x)) s K = K (atpV x) s := by rw [load_lptrA]; rfl
theorem ldv_at (x : AtP) (s : St) : ldv true 7 (.lptr (atpC x)) s = some (atpV x) := by unfold ldv; rw [ld_at]; rfl
theorem ldv_rq {s : St} {x : Nat} {r : Rq} (ho : s.ob x = some (.cells (rqC r))) : ldv false 1 (.ptr x 2) s = some (.lst (r.atoms.map atpV) 0) := by unfold ldv; rw [load_ob, ho]; rfl
theorem bx_z (s : St) : A.box (.agg Z7) s kid = some (.ret (.ptr s.n 0), s.new (.cells Z7)) := rfl
theorem st_at {s : St} {i : Nat} (x : AtP) (o : s.ob i = some (.cells Z7)) : A.store 7 (.ptr i 0) (atpV x) s (fun s => kid (.tup []) s) = some (.ret (.tup []), s.put i (.cells (atpC x))) := by
  unfold atpV; rw [sv_all 7 _ o rfl rfl rfl]; rfl
/-- Two atoms are copied. -/
theorem copies {st : St} {c d : Nat} {a b : Rq} (x y : AtP) (hc : c < st.n) (hd : d < st.n) (oc : st.ob c = some (.cells (rqC a))) (od : st.ob d = some (.cells (rqC b))) (L : V → V → St → Res) :
    ∃ s4, (A.ret (A.box (.agg Z7) st kid) fun a17 z18 =>
 A.chk (ldv true 7 (.lptr (atpC y)) z18) (atpV y)
 (A.chk (ldv false 1 (.ptr d 2) z18) (.lst (b.atoms.map atpV) 0)
 (A.chk (ldv true 7 (.lptr (atpC x)) z18) (atpV x)
 (A.chk (ldv false 1 (.ptr c 2) z18) (.lst (a.atoms.map atpV) 0)
 (A.ret (A.box (.agg Z7) z18 kid) fun a19 z20 =>
 A.chk (ldv true 7 (.lptr (atpC y)) z20) (atpV y)
 (A.chk (ldv false 1 (.ptr d 2) z20) (.lst (b.atoms.map atpV) 0)
 (A.chk (ldv true 7 (.lptr (atpC x)) z20) (atpV x)
 (A.chk (ldv false 1 (.ptr c 2) z20) (.lst (a.atoms.map atpV) 0)
 (A.ret (A.store 7 a17 (atpV x) z20 fun s => kid (.tup []) s) fun a21 z22 =>
 A.chk (ldv true 7 (.lptr (atpC y)) z22) (atpV y)
 (A.chk (ldv false 1 (.ptr d 2) z22) (.lst (b.atoms.map atpV) 0)
 (A.ret (A.store 7 a19 (atpV y) z22 fun s => kid (.tup []) s) fun a23 z24 =>
 L a17 a19 z24))))))))))) = L (.ptr st.n 0) (.ptr (st.n + 1) 0) s4 ∧ Ks st s4 ∧ s4.ob st.n = some (.cells (atpC x)) ∧ s4.ob (st.n + 1) = some (.cells (atpC y)) := by
  have c1 : (st.new (.cells Z7)).ob c = some (.cells (rqC a)) := by rw [new_ne _ _ (by omega)]; exact oc
  have d1 : (st.new (.cells Z7)).ob d = some (.cells (rqC b)) := by rw [new_ne _ _ (by omega)]; exact od
  rw [bx_z, ret_ret, ldv_at, chk_same, ldv_rq d1, chk_same, ldv_at, chk_same, ldv_rq c1, chk_same, bx_z, ret_ret]
  have n1 : (st.new (.cells Z7)).n = st.n + 1 := rfl
  have p1 : (st.new (.cells Z7)).ob st.n = some (.cells Z7) := new_at _ _
  have k1 : Ks st (st.new (.cells Z7)) := (Ks.refl st).new _
  generalize st.new (.cells Z7) = s1 at c1 d1 n1 p1 k1 ⊢
  have c2 : (s1.new (.cells Z7)).ob c = some (.cells (rqC a)) := by rw [new_ne _ _ (by omega)]; exact c1
  have d2 : (s1.new (.cells Z7)).ob d = some (.cells (rqC b)) := by rw [new_ne _ _ (by omega)]; exact d1
  have p2 : (s1.new (.cells Z7)).ob st.n = some (.cells Z7) := by rw [new_ne _ _ (by omega)]; exact p1
  have q2 : (s1.new (.cells Z7)).ob (st.n + 1) = some (.cells Z7) := by rw [← n1]; exact new_at _ _
  have k2 : Ks st (s1.new (.cells Z7)) := k1.new _
  rw [ldv_at, chk_same, ldv_rq d2, chk_same, ldv_at, chk_same, ldv_rq c2, chk_same, n1]
  generalize s1.new (.cells Z7) = s2 at c2 d2 p2 q2 k2 ⊢
  rw [st_at x p2, ret_ret]
  have p3 := put_at s2 st.n (.cells (atpC x))
  have q3 : (s2.put st.n (.cells (atpC x))).ob (st.n + 1) = some (.cells Z7) := by rw [put_ne _ _ (by omega)]; exact q2
  have d3 : (s2.put st.n (.cells (atpC x))).ob d = some (.cells (rqC b)) := by rw [put_ne _ _ (by omega)]; exact d2
  have k3 : Ks st (s2.put st.n (.cells (atpC x))) := k2.put (Nat.le_refl _) _
  generalize s2.put st.n (.cells (atpC x)) = s3 at p3 q3 d3 k3 ⊢
  rw [ldv_at, chk_same, ldv_rq d3, chk_same, st_at y q3, ret_ret]
  exact ⟨s3.put (st.n + 1) (.cells (atpC y)), rfl, k3.put (by omega) _, by rw [put_ne _ _ (by omega)]; exact p3, put_at _ _ _⟩
theorem la_at {s4 : St} {x : Nat} {t : AtP} (ho : s4.ob x = some (.cells (atpC t))) : (∀ K : V → St → Res, A.load true 2 (.ptr x 0) s4 K = K (tmV t.s) s4) ∧ (∀ K : V → St → Res, A.load true 2 (.ptr x 5) s4 K = K (tmV t.o) s4) ∧ (∀ K : V → St → Res, A.load true 3 (.ptr x 2) s4 K = K t.p.v s4) :=
  ⟨fun K => by rw [load_obA, ho]; rfl, fun K => by rw [load_obA, ho]; rfl, fun K => by rw [load_obA, ho, pth_c]; rfl⟩
/-- Two atoms are held against each other. -/
theorem same_step {st s4 : St} {p q : Nat} {x y : AtP} (hx : x.p.sz.2 ≤ 1000000 ∧ x.p.nd ≤ 1000000) (p4 : s4.ob p = some (.cells (atpC x))) (q4 : s4.ob q = some (.cells (atpC y))) (L : V → V → V → St → Res) (c d : V) (i : Nat) (hi : i ≤ 1000000000) :
    g15b11101001001 L c d (.int .i64 (i : Nat)) (.ptr p 0) (.ptr q 0) s4 = if sameAt x y = true then L c d (.int .i64 ((i + 1 : Nat) : Int)) s4 else some (.ret (.bool false), s4) := by
  unfold g15b11101001001
  obtain ⟨x1, x2, x3⟩ := la_at p4
  obtain ⟨y1, y2, y3⟩ := la_at q4
  have e4 : ∀ K, A.bin .add (.int .i64 (i : Nat)) (.int .i64 1) K = K (.int .i64 ((i + 1 : Nat) : Int)) := fun K => bin_inc (by omega) K
  simp only [faddr_ptr, Nat.zero_add, x1, y1, eqs63]
  have hat : sameAt x y = (sameTm x.s y.s && (sameTm x.o y.o && sameP x.p y.p)) := rfl
  rw [hat]
  unfold g15b111010010010_6
  cases e1 : sameTm x.s y.s with
  | false =>
    rw [Bool.not_false, guard_tf]
    unfold g15b111010010010_13
    rw [guard_tf]
    rfl
  | true =>
    rw [Bool.not_true, guard_ff]
    simp only [faddr_ptr, Nat.zero_add, x2, y2, eqs63]
    unfold g15b111010010010_13
    cases e2 : sameTm x.o y.o with
    | false => rw [Bool.not_false, guard_tf]; rfl
    | true =>
      rw [Bool.not_true, guard_ff]
      simp only [faddr_ptr, Nat.zero_add, x3, y3, pth_er, samep_s x.p y.p hx.1 hx.2, ret_ret, un_not]
      cases e3 : sameP x.p y.p with
      | false => rfl
      | true => rw [Bool.not_true, cond_false, e4]; rfl
end Go.Ab
