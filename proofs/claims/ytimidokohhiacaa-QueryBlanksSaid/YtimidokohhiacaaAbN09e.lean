import Derived.Test.YtimidokohhiacaaAbP09M
import Derived.Test.YtimidokohhiacaaAbA09o
/- sinewlaw09: QueryBlanks. -/
namespace Go.Ab
open Go.Proofs Go.RowKit
set_option linter.unusedVariables false
set_option linter.unusedSimpArgs false
set_option maxRecDepth 100000
def moreL : List (List UInt8) := [[32, 32], [10], [9, 32], [32, 10, 10]]
theorem more_ok (i : Nat) (h : i < moreL.length) : moreL[i] ≠ [] ∧ (∀ b ∈ moreL[i], blB b = true) ∧ moreL[i].length ≤ 3 := by
  have h' : i < 4 := h
  rcases (show i = 0 ∨ i = 1 ∨ i = 2 ∨ i = 3 by omega) with rfl | rfl | rfl | rfl <;> exact ⟨by simp [moreL], by simp [moreL]; decide, by simp [moreL]⟩
theorem addQ (a b : List UInt8) (h : a.length + b.length ≤ 1000000) (K : V → Res) : A.bin .add (.str a) (.str b) K = K (.str (a ++ b)) := by simp [A.bin, show a.length + b.length ≤ 4611686018427387904 by omega]
/-- Some blanks, by a number. -/
theorem pickB (y : Int) (st : St) (K : V → St → Res) : ∃ u : List UInt8, (A.bin .and (.int .i64 y) (.int .i64 3) fun a2 => A.iaddr 1 (.lst (strsV moreL) 2) a2 fun a3 => A.load false 1 a3 st K) = K (.str u) st ∧ u ≠ [] ∧ (∀ b ∈ u, blB b = true) ∧ u.length ≤ 3 := by
  have hl : low 4 y < moreL.length := low_lt 4 y (by omega)
  obtain ⟨h1, h2, h3⟩ := more_ok _ hl
  refine ⟨moreL[low 4 y], ?_, h1, h2, h3⟩
  rw [bin_and3, iaddr_strs 2 hl]; rfl
theorem isbl (b : UInt8) (F : V → Res) : (A.guard (.bool ((b.toNat : Int) == 32)) false (A.guard (.bool ((b.toNat : Int) == 9)) false (F (.bool ((b.toNat : Int) == 10))) (F (.bool true))) (F (.bool true))) = F (.bool (blB b)) := by
  unfold blB blI
  cases ((b.toNat : Int) == 32) <;> cases ((b.toNat : Int) == 9) <;> rfl
theorem byteL_one (b : UInt8) : byteL [.int .u8 b.toNat] = some [b] := by
  have h := UInt8.toNat_lt b
  simp [byteL]
  try omega
theorem addAny (x y : Int) (K : V → Res) : ∃ z, A.bin .add (.int .i64 x) (.int .i64 y) K = K (.int .i64 z) := ⟨IntKind.i64.wrap (x + y), by simp [A.bin]⟩
theorem shrAny (x : Int) (K : V → Res) : ∃ z, A.bin .shr (.int .i64 x) (.int .u64 2) K = K (.int .i64 z) := ⟨x.fdiv (2 ^ min 2 IntKind.i64.bits), by simp [A.bin]⟩
theorem blanks_loop (s : List UInt8) (hs : s.length ≤ 300) (y : Int) (x5 : V) (st : St) : ∀ (n i : Nat) (t0 : List UInt8), i ≤ s.length → s.length < n + i → t0.length ≤ 10 + 3 * i →
    ∃ t, g10b11111010 n (.str s) (.int .i64 y) x5 (.lst (strsV moreL) 2) (.str t0) (.int .i64 (i : Nat)) st = g10b111111 (.int .i64 y) x5 (.lst (strsV moreL) 2) (.str (t0 ++ t)) st ∧ Bl (s.drop i) t ∧ t.length ≤ 3 * (s.length - i) := by
  intro n
  induction n with
  | zero => intro i t0 hi hn; omega
  | succ n ih =>
    intro i t0 hi hn ht
    rw [g10b11111010]
    simp only [lenS_str, bin_lss]
    by_cases hil : i < s.length
    · have e4 : ∀ K, A.bin .add (.int .i64 (i : Nat)) (.int .i64 1) K = K (.int .i64 ((i + 1 : Nat) : Int)) := fun K => bin_inc (by omega) K
      simp only [show ((i : Int) < (s.length : Int)) from by omega, decide_true, cond_true, idxS_at hil, eql_int, Bool.false_eq_true, if_false]
      unfold g10b1111101001000_11
      simp only [idxS_at hil, eql_int, Bool.false_eq_true, if_false]
      rw [guard_tf]
      rw [isbl s[i] (fun v => g10b1111101001001 (g10b11111010 n) (.str s) (.int .i64 y) x5 (.lst (strsV moreL) 2) (.str t0) (.int .i64 (i : Nat)) v st)]
      unfold g10b1111101001001
      rw [List.drop_eq_getElem_cons hil]
      cases hb : blB s[i] with
      | true =>
        rw [cond_true]
        obtain ⟨z, hz⟩ := addAny y (i : Nat) (fun a1 => A.bin .and a1 (.int .i64 3) fun a2 => A.iaddr 1 (.lst (strsV moreL) 2) a2 fun a3 => A.load false 1 a3 st fun a4 z5 => A.bin .add (.str t0) a4 fun a6 => A.bin .add (.int .i64 (i : Nat)) (.int .i64 1) fun a7 => g10b11111010 n (.str s) (.int .i64 y) x5 (.lst (strsV moreL) 2) a6 a7 z5)
        rw [hz]
        obtain ⟨u, hu, u1, u2, u3⟩ := pickB z st (fun a4 z5 => A.bin .add (.str t0) a4 fun a6 => A.bin .add (.int .i64 (i : Nat)) (.int .i64 1) fun a7 => g10b11111010 n (.str s) (.int .i64 y) x5 (.lst (strsV moreL) 2) a6 a7 z5)
        rw [hu, addQ _ _ (by omega), e4]
        obtain ⟨t, q1, q2, q3⟩ := ih (i + 1) (t0 ++ u) (by omega) (by omega) (by simp; omega)
        exact ⟨u ++ t, by rw [q1, List.append_assoc], .blank _ _ u t hb u2 u1 q2, by simp; omega⟩
      | false =>
        have bs : ∀ K : V → Res, (A.bslice 1 (.int .u8 0) 1 [(0, .int .u8 s[i].toNat)] fun a9 => A.toStr a9 st K) = K (.str [s[i]]) := fun K => by
          have : A.bslice 1 (.int .u8 0) 1 [(0, .int .u8 s[i].toNat)] = fun K => K (.lst [.int .u8 s[i].toNat] 2) := rfl
          rw [this]
          show A.toStr (.lst [.int .u8 s[i].toNat] 2) st K = _
          have hb1 : byteL [.int .u8 s[i].toNat] = some [s[i]] := byteL_one s[i]
          simp only [A.toStr, hb1]
        rw [cond_false, idxS_at hil, bs, addQ _ _ (by simp; omega), e4]
        obtain ⟨t, q1, q2, q3⟩ := ih (i + 1) (t0 ++ [s[i]]) (by omega) (by omega) (by simp; omega)
        exact ⟨s[i] :: t, by rw [q1, List.append_assoc]; rfl, .other _ _ t hb q2, by simp; omega⟩
    · have : i = s.length := by omega
      subst this
      simp only [Int.lt_irrefl, decide_false, cond_false, List.drop_length]
      exact ⟨[], by rw [List.append_nil], .nil [] (by simp), by simp⟩
theorem blanks_law (s : List UInt8) (y : Int) (hs : s.length ≤ 9223372036854775807) (st : St) : ∃ st', s10 [.str s, .int .i64 y] st = some (.ret (.bool true), st') := by
  rw [s10_eq]
  unfold f10
  simp only [er1_str, parse_s, ret_ret, parseV, ext_0, ext_1, ext_2]
  have bx : ∀ (st : St) (K : V → St → Res), A.box (.agg [(.int .i64 0), (.lst [] 1), (.lst [] 1), (.lst [] 1)]) st K = K (.ptr st.n 0) (st.new (.cells (rqCt rq0 1 1 1))) := fun st K => rfl
  rw [bx, show A.store 4 (.ptr st.n 0) (rqV (parseP s).1) (st.new (.cells (rqCt rq0 1 1 1))) = _ from funext fun K => sv_all 4 (rqC _) (new_at _ _) rfl rfl rfl K]
  have o2 := put_at (st.new (.cells (rqCt rq0 1 1 1))) st.n (.cells (rqC (parseP s).1))
  have n2 : st.n < ((st.new (.cells (rqCt rq0 1 1 1))).put st.n (.cells (rqC (parseP s).1))).n := by simp
  generalize (st.new (.cells (rqCt rq0 1 1 1))).put st.n (.cells (rqC (parseP s).1)) = s2 at o2 n2 ⊢
  unfold g10b11
  simp only [eql_int, if_true]
  by_cases he : (parseP s).2.2 = 0
  case neg =>
    rw [show ((parseP s).2.2 != 0) = true from bne_iff_ne.2 he, guard_tf, s13_val, ret_ret, er1_bool]
    exact ⟨_, rfl⟩
  rw [show ((parseP s).2.2 != 0) = false from by rw [he]; rfl, guard_ff]
  simp only [lenS_str, bin_gtr]
  by_cases h3 : 300 < s.length
  · simp only [show ((300 : Int) < (s.length : Int)) from by omega, decide_true, cond_true, s13_val, ret_ret, er1_bool]
    exact ⟨_, rfl⟩
  simp only [show ¬ ((300 : Int) < (s.length : Int)) from by omega, decide_false, cond_false]
  unfold g10b111
  have bs : ∀ K, A.bslice 1 (.str []) 4 [(0, (.str [32, 32])), (1, (.str [10])), (2, (.str [9, 32])), (3, (.str [32, 10, 10]))] K = K (.lst (strsV moreL) 2) := fun K => rfl
  rw [bs]
  obtain ⟨p, hp, p1, p2, p3⟩ := pickB y s2 (fun a4 z5 => g10b11111010 big (.str s) (.int .i64 y) (.ptr st.n 0) (.lst (strsV moreL) 2) a4 (.int .i64 0) z5)
  rw [hp]
  obtain ⟨t, q1, q2, q3⟩ := blanks_loop s (by omega) y (.ptr st.n 0) s2 big 0 p (by omega) (lt_big (by omega)) (by omega)
  rw [show ((0 : Nat) : Int) = 0 from rfl] at q1
  rw [q1]
  rw [List.drop_zero] at q2
  unfold g10b111111
  obtain ⟨z, hz⟩ := shrAny y (fun a1 => A.bin .and a1 (.int .i64 3) fun a2 => A.iaddr 1 (.lst (strsV moreL) 2) a2 fun a3 => A.load false 1 a3 s2 fun a4 z5 => A.bin .add (.str (p ++ t)) a4 fun a6 => A.ret (s12 [a6.er1] z5) fun a7 z8 => A.ext a7 0 fun a9 => A.ext a7 1 fun a10 => A.ext a7 2 fun a11 => A.box (.agg [(.int .i64 0), (.lst [] 1), (.lst [] 1), (.lst [] 1)]) z8 fun a12 z13 => A.store 4 a12 a9 z13 fun z14 => g10b1111111 (.ptr st.n 0) a12 a10 a11 z14)
  rw [hz]
  obtain ⟨u, hu, u1, u2, u3⟩ := pickB z s2 (fun a4 z5 => A.bin .add (.str (p ++ t)) a4 fun a6 => A.ret (s12 [a6.er1] z5) fun a7 z8 => A.ext a7 0 fun a9 => A.ext a7 1 fun a10 => A.ext a7 2 fun a11 => A.box (.agg [(.int .i64 0), (.lst [] 1), (.lst [] 1), (.lst [] 1)]) z8 fun a12 z13 => A.store 4 a12 a9 z13 fun z14 => g10b1111111 (.ptr st.n 0) a12 a10 a11 z14)
  rw [hu, addQ _ _ (by simp; omega), List.append_assoc]
  have hpar := blanks_pure (t := t ++ u) p2 (q2.app u u2) (by simp; omega) he
  simp only [er1_str, parse_s, ret_ret, parseV, ext_0, ext_1, ext_2]
  rw [hpar]
  obtain ⟨_, l, r, hl, hr, hw, e⟩ := parse_ok he
  have hr1 : parseP s = (r, 0, 0) := e
  rw [hr1]
  rw [bx, show A.store 4 (.ptr s2.n 0) (rqV r) (s2.new (.cells (rqCt rq0 1 1 1))) = _ from funext fun K => sv_all 4 (rqC _) (new_at _ _) rfl rfl rfl K]
  have o3 := put_at (s2.new (.cells (rqCt rq0 1 1 1))) s2.n (.cells (rqC r))
  have o23 : ((s2.new (.cells (rqCt rq0 1 1 1))).put s2.n (.cells (rqC r))).ob st.n = some (.cells (rqC r)) := by
    rw [put_ne _ _ (by omega), new_ne _ _ (by omega), o2, hr1]
  generalize (s2.new (.cells (rqCt rq0 1 1 1))).put s2.n (.cells (rqC r)) = s3 at o3 o23 ⊢
  unfold g10b1111111 g10b11111110_7
  have ld : ∀ {x : Nat} (K : V → St → Res), s3.ob x = some (.cells (rqC r)) → A.load true 4 (.ptr x 0) s3 K = K (rqV r) s3 := fun {x} K ho => by rw [load_obA, ho]; rfl
  obtain ⟨z1, z2, z3, z4⟩ := pReq_small (l.length + 1) hr
  have hll := lex_len hl
  have hsm : okS r := ⟨by omega, by omega, by omega, fun a ha => by obtain ⟨y1, y2, y3⟩ := z4 a ha; exact ⟨by omega, by omega⟩⟩
  have hsame : sameR r r = true := (sameR_iff r r).2 rfl
  simp only [eql_int, Bool.false_eq_true, if_false, beq_self_eq_true, guard_tt, ld _ o23, ld _ o3, show (rqV r).er1 = rqV r from rfl, same_s hsm, hsame, ret_ret, s13_val, er1_bool]
  exact ⟨_, rfl⟩
theorem queryBlanks_row {W : World} {v0 v1 : Value} {x0 x1 : V} {n0 n1 : Nat}
    (r0 : Rs (E0 W) [x0] [v0]) (s0 : Sh Try.prog n0 9 x0.cells) (f0 : fit Try.prog 9 x0)
    (r1 : Rs (E0 W) [x1] [v1]) (s1 : Sh Try.prog n1 3 x1.cells) (f1 : fit Try.prog 3 x1) :
    Calls Try.prog 10 #[v0, v1] W fun e w' => e = .returned (.bool true) ∧ Below W.heap.size W w' := by
  obtain ⟨a, rfl, ha⟩ := in_str s0 f0 Try.underlying9
  obtain ⟨b, rfl, _⟩ := in_int s1 f1 Try.underlying3
  obtain ⟨st', hs⟩ := blanks_law a b (by simpa [maxLen] using ha) St0
  exact bool_row sim10 W _ _ _ hs (Rs.cons r0 r1)
end Go.Ab
