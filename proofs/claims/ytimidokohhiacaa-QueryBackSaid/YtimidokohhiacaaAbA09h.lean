import Derived.Test.YtimidokohhiacaaAbA09c
import Derived.Test.YtimidokohhiacaaAbA09g
/- sinew/token: the walk of Signs. -/
namespace Go.Ab
open Go.Proofs Go.RowKit
set_option linter.unusedVariables false
set_option linter.unusedSimpArgs false
set_option maxRecDepth 100000
theorem part_s (b : UInt8) (st : St) : s46 [.int .u8 b.toNat] st = some (.ret (.bool (partB b)), st) := by
  rw [s46_eq]
  unfold f46 g46bzld g46bz16r partB partI
  simp only [bin_geq, bin_leq, eql_int, Bool.false_eq_true, if_false, er1_bool]
  cases decide ((48 : Int) ≤ (b.toNat : Int)) <;> cases decide ((b.toNat : Int) ≤ 57) <;> cases decide ((97 : Int) ≤ (b.toNat : Int)) <;> cases decide ((b.toNat : Int) ≤ 122) <;> cases ((b.toNat : Int) == 45) <;> cases ((b.toNat : Int) == 58) <;> rfl
theorem run_loop (s : List UInt8) (hs : s.length ≤ 100000) (st : St) : ∀ (n i : Nat), i ≤ s.length → s.length < n + i → (∀ b ∈ s.take i, partB b = true) → g47b1100 n (.str s) (.int .i64 (i : Nat)) st = some (.ret (.str (runL s)), st) := by
  intro n
  induction n with
  | zero => intro i hi hn; omega
  | succ n ih =>
    intro i hi hn hb
    rw [g47b1100]
    have sl : ∀ K, A.sliceS (.str s) none (some (.int .i64 (i : Nat))) K = K (.str (s.take i)) := fun K => by simp [A.sliceS, bnd, hi]
    have hr : ∀ (h : i < s.length → partB (s.getD i 0) = false), runL s = s.take i := fun h => by
      unfold runL
      have hp : ∀ (l : List UInt8) (i : Nat), (∀ b ∈ l.take i, partB b = true) → (i < l.length → partB (l.getD i 0) = false) → l.takeWhile partB = l.take i := by
        intro l
        induction l with
        | nil => intro i _ _; simp
        | cons a l ihl =>
          intro i h1 h2
          cases i with
          | zero =>
            have := h2 (by simp)
            simp at this
            rw [List.takeWhile_cons, this]; rfl
          | succ i =>
            rw [List.takeWhile_cons, if_pos (h1 a (by simp)), List.take_succ_cons]
            rw [ihl i (fun b hb => h1 b (by simp; exact .inr hb)) (fun h => by have := h2 (by simp; omega); simpa using this)]
      exact hp s i hb h
    simp only [lenS_str, bin_lss]
    by_cases hil : i < s.length
    · have e4 : ∀ K, A.bin .add (.int .i64 (i : Nat)) (.int .i64 1) K = K (.int .i64 ((i + 1 : Nat) : Int)) := fun K => bin_inc (by omega) K
      simp only [show ((i : Int) < (s.length : Int)) from by omega, decide_true, guard_tt, idxS_at hil, er1_int, part_s, ret_ret]
      cases hp : partB s[i] with
      | true =>
        rw [cond_true, e4]
        refine ih (i + 1) (by omega) (by omega) (fun b hbm => ?_)
        rw [List.take_add_one, List.getElem?_eq_getElem hil] at hbm
        rcases List.mem_append.1 hbm with g | g
        · exact hb b g
        · simp at g; rw [g]; exact hp
      | false => rw [cond_false, sl, er1_str, hr (fun _ => by simp [List.getD, List.getElem?_eq_getElem hil]; exact hp)]
    · simp only [show ¬ ((i : Int) < (s.length : Int)) from by omega, decide_false, guard_ft]
      rw [sl, er1_str, hr (fun g => absurd g hil)]
theorem run_s (s : List UInt8) (hs : s.length ≤ 100000) (st : St) : s47 [.str s] st = some (.ret (.str (runL s)), st) := by
  rw [s47_eq]
  unfold f47
  exact run_loop s hs st big 0 (by omega) (lt_big (by omega)) (by simp)
theorem idxB_neg : ∀ (l : List UInt8) (c : UInt8) (i : Nat), decide (idxB l c i < 0) = !l.contains c
  | [], c, i => rfl
  | b :: l, c, i => by
    rw [idxB, List.contains_cons]
    by_cases h : b = c
    · subst h; simp
    · rw [if_neg (by simpa using h), idxB_neg l c (i + 1), show (c == b) = false from by rw [beq_eq_false_iff_ne]; exact fun g => h g.symm, Bool.false_or]
theorem byte_back (b : UInt8) : ((b.toNat : Int)).toNat.toUInt8 = b := by
  rw [Int.toNat_natCast]; exact UInt8.ofNat_toNat
/-- The answer of Signs, from a place on. -/
def sgR (acc : List Sg) (u : Nat) (r : LR) : V := match r with
  | .ok l => .tup [.lst ((acc ++ l).map sgV) u, .int .i64 0, .int .i64 0]
  | .bad k => .tup [.lst [] 1, .int .i64 (k : Nat), .int .i64 80]
theorem bs_sg (x : Sg) (K : V → Res) : A.bslice 3 (.agg [(.int .i64 0), (.str []), (.int .i64 0)]) 1 [(0, sgV x)] K = K (.lst [sgV x] 2) := rfl
theorem eqB (b : UInt8) (k : Nat) (hk : k < 256) : ((b.toNat : Int) == (k : Int)) = (b == k.toUInt8) := by
  by_cases h : b = k.toUInt8
  · subst h
    rw [beq_self_eq_true, beq_iff_eq]
    congr 1
    simp [Nat.toUInt8, UInt8.toNat_ofNat]; omega
  · rw [beq_eq_false_iff_ne.2 h, beq_eq_false_iff_ne]
    intro g
    apply h
    have : b.toNat = k := by omega
    rw [← this]; exact UInt8.ofNat_toNat.symm
/-- One more sign, if it is not too long. -/
theorem add_sign {st0 st : St} {u i : Nat} {acc : List Sg} {x : Sg} (hk : Ks st0 st) (ho : Own st0 st 3 u) (hl : acc.length ≤ 100000) (oi : st.ob i = some (.cells [.int .i64 x.k, .str x.tx, .int .i64 x.at_])) (s at' : V) (L : V → V → V → St → Res) :
    ∃ st' u', g24bzp7 L s (.lst (acc.map sgV) u) at' (.ptr i 0) st = (if 16 < x.tx.length then some (Out.ret (.tup [.lst [] 1, .int .i64 x.at_, .int .i64 80]), st') else L s (.lst ((acc ++ [x]).map sgV) u') at' st') ∧ Ks st0 st' ∧ Own st0 st' 3 u' := by
  unfold g24bzp7
  have w1 : ∀ K : V → St → Res, A.load false 1 (.ptr i 1) st K = K (.str x.tx) st := fun K => by simp [oi]
  have w2 : ∀ K : V → St → Res, A.load false 1 (.ptr i 2) st K = K (.int .i64 x.at_) st := fun K => by simp [oi]
  have w3 : ∀ K : V → St → Res, A.load true 3 (.ptr i 0) st K = K (sgV x) st := fun K => by rw [load_obA, oi]; rfl
  simp only [faddr_ptr, Nat.zero_add, w1, lenS_str, bin_gtr, w2, w3, bs_sg, er1_int, er1_lst]
  by_cases h : 16 < x.tx.length
  · simp only [show ((16 : Int) < (x.tx.length : Int)) from by omega, decide_true, cond_true, if_pos h]
    exact ⟨st, u, rfl, hk, ho⟩
  · simp only [show ¬ ((16 : Int) < (x.tx.length : Int)) from by omega, decide_false, cond_false, if_neg h]
    rw [show elemsOf 5 3 (.lst [sgV x] 2) st = some [sgV x] from elemsOf_lst 3 _ 2 st (sgs_ok [x]), app_own _ ho (by simp; omega) (sgs_ok acc)]
    obtain ⟨k2, o2⟩ := ho.app hk
    exact ⟨_, _, by rw [List.map_append]; rfl, k2, o2⟩
theorem lex_loop {st0 : St} (s : List UInt8) (hs : s.length ≤ 100000) : ∀ (n f i : Nat) (acc : List Sg) (st : St) (u : Nat), i ≤ s.length → s.length - i < n → n ≤ f → acc.length ≤ i → Ks st0 st → Own st0 st 3 u →
    ∃ st' u', g24b1100 f (.str s) (.lst (acc.map sgV) u) (.int .i64 (i : Nat)) st = some (.ret (sgR acc u' (lex n i (s.drop i))), st') ∧ Ks st0 st' := by
  intro n
  induction n with
  | zero => intro f i acc st u h1 h2; omega
  | succ n ih =>
    intro f i acc st u hi hn hf hacc hk ho
    obtain ⟨f, rfl⟩ : ∃ f', f = f' + 1 := ⟨f - 1, by omega⟩
    rw [g24b1100]
    simp only [lenS_str, bin_lss]
    by_cases hil : i < s.length
    case neg =>
      have : i = s.length := by omega
      subst this
      simp only [Int.lt_irrefl, decide_false, cond_false, List.drop_length, er1_lst, er1_int]
      refine ⟨st, u, ?_, hk⟩
      show _ = some (Out.ret (.tup [.lst ((acc ++ []).map sgV) u, .int .i64 0, .int .i64 0]), st)
      rw [List.append_nil]
    have e4 : ∀ K, A.bin .add (.int .i64 (i : Nat)) (.int .i64 1) K = K (.int .i64 ((i + 1 : Nat) : Int)) := fun K => bin_inc (by omega) K
    have hd : s.drop i = s[i] :: s.drop (i + 1) := List.drop_eq_getElem_cons hil
    have slA : ∀ K, A.sliceS (.str s) (some (.int .i64 (i : Nat))) (some (.int .i64 ((i + 1 : Nat) : Int))) K = K (.str [s[i]]) := fun K => by
      simp only [A.sliceS, bnd, Int.natCast_nonneg, if_true, Int.toNat_natCast, if_pos (show i ≤ i + 1 ∧ i + 1 ≤ s.length by omega)]
      rw [List.drop_take, show i + 1 - i = 1 by omega, hd]; rfl
    have slB : ∀ K, A.sliceS (.str s) (some (.int .i64 (i : Nat))) none K = K (.str (s.drop i)) := fun K => by
      simp [A.sliceS, bnd, hi]
    have slC : ∀ K, A.sliceS (.str s) (some (.int .i64 ((i + 1 : Nat) : Int))) none K = K (.str (s.drop (i + 1))) := fun K => by
      simp only [A.sliceS, bnd, Int.natCast_nonneg, if_true, Int.toNat_natCast, if_pos (show i + 1 ≤ s.length ∧ s.length ≤ s.length by omega), List.take_length]
    have bu : ∀ K, A.build [(.int .i64 0), (.str []), (.int .i64 0)] [(0, 1, (.int .i64 3)), (1, 1, .str [s[i]]), (2, 1, .int .i64 (i : Nat))] K = K (.agg [.int .i64 3, .str [s[i]], .int .i64 (i : Nat)]) := fun K => rfl
    simp only [show ((i : Int) < (s.length : Int)) from by omega, decide_true, cond_true, e4, slA, bu, bx_sg]
    rw [sv_all 3 _ (new_at _ _) rfl rfl rfl]
    have k2 : Ks st0 ((st.new (.cells [.int .i64 0, .str [], .int .i64 0])).put st.n (.cells [.int .i64 3, .str [s[i]], .int .i64 (i : Nat)])) := (hk.new _).put hk.n _
    have o2 := put_at (st.new (.cells [.int .i64 0, .str [], .int .i64 0])) st.n (.cells [.int .i64 3, .str [s[i]], .int .i64 (i : Nat)])
    have ow2 : Own st0 ((st.new (.cells [.int .i64 0, .str [], .int .i64 0])).put st.n (.cells [.int .i64 3, .str [s[i]], .int .i64 (i : Nat)])) 3 u := own_putnew ho
    generalize hp : st.n = p at o2 ⊢
    rw [hp] at k2 ow2
    have hpn : st0.n ≤ p := by rw [← hp]; exact hk.n
    generalize (st.new (.cells [.int .i64 0, .str [], .int .i64 0])).put p (.cells [.int .i64 3, .str [s[i]], .int .i64 (i : Nat)]) = s2 at k2 o2 ow2 ⊢
    unfold g24bzcl
    rw [idxS_at hil]
    have eb : ∀ k : Nat, ((s[i].toNat : Int) == (k : Int)) = ((s[i].toNat : Int) == (k : Int)) := fun _ => rfl
    -- a blank, or not
    have fork : ∀ (F : V → Res), (A.guard (.bool ((s[i].toNat : Int) == 32)) false (A.guard (.bool ((s[i].toNat : Int) == 9)) false (F (.bool ((s[i].toNat : Int) == 10))) (F (.bool true))) (F (.bool true))) = F (.bool (blB s[i])) := fun F => by
      unfold blB blI
      cases ((s[i].toNat : Int) == 32) <;> cases ((s[i].toNat : Int) == 9) <;> rfl
    simp only [eql_int, Bool.false_eq_true, if_false]
    rw [fork (fun v => g24bz5lh (g24b1100 f) (.str s) (.lst (acc.map sgV) u) (.int .i64 (i : Nat)) (.ptr p 0) (.int .u8 s[i].toNat) v s2)]
    rw [hd, lex]
    unfold g24bz5lh
    cases hbl : blB s[i] with
    | true =>
      rw [if_pos rfl, cond_true, e4]
      exact ih f (i + 1) acc s2 u (by omega) (by omega) (by omega) (by omega) k2 ow2
    | false =>
      rw [if_neg (by simp), cond_false]
      simp only [er1_int, part_s, ret_ret]
      cases hpt : partB s[i] with
      | true =>
        rw [cond_true, slB, if_pos rfl]
        simp only [er1_str, run_s (s.drop i) (by simp; omega), ret_ret, faddr_ptr, Nat.zero_add]
        have s3 : ∀ K : St → Res, A.store 1 (.ptr p 0) (.int .i64 1) s2 K = K (s2.put p (.cells [.int .i64 1, .str [s[i]], .int .i64 (i : Nat)])) := fun K => by rw [store_ob _ _ _ _ _ rfl, o2]; rfl
        have s4 : ∀ K : St → Res, A.store 1 (.ptr p 1) (.str (runL (s.drop i))) (s2.put p (.cells [.int .i64 1, .str [s[i]], .int .i64 (i : Nat)])) K = K (s2.put p (.cells [.int .i64 1, .str (runL (s.drop i)), .int .i64 (i : Nat)])) := fun K => by rw [store_ob _ _ _ _ _ rfl, put_at]; simp
        rw [s3, s4]
        have k3 : Ks st0 (s2.put p (.cells [.int .i64 1, .str (runL (s.drop i)), .int .i64 (i : Nat)])) := k2.put hpn _
        have o3 := put_at s2 p (.cells [.int .i64 1, .str (runL (s.drop i)), .int .i64 (i : Nat)])
        have ow3 : Own st0 (s2.put p (.cells [.int .i64 1, .str (runL (s.drop i)), .int .i64 (i : Nat)])) 3 u := by
          rcases ow2 with g | g | ⟨j, g1, g2, g3, g4⟩
          · exact .inl g
          · exact .inr (.inl g)
          · exact .inr (.inr ⟨j, g1, g2, by simpa using g3, by simpa using g4⟩)
        generalize s2.put p (.cells [.int .i64 1, .str (runL (s.drop i)), .int .i64 (i : Nat)]) = s5 at k3 o3 ow3 ⊢
        unfold g24bz2hjx
        have w1 : ∀ K : V → St → Res, A.load false 1 (.ptr p 1) s5 K = K (.str (runL (s.drop i))) s5 := fun K => by simp [o3]
        have hrl := runL_le (s.drop i)
        have hrl1 : 1 ≤ (runL (s.drop i)).length := by rw [hd, runL_cons hpt]; simp
        simp only [List.length_drop] at hrl
        simp only [faddr_ptr, Nat.zero_add, w1, lenS_str]
        rw [bin_addN i (runL (s.drop i)).length _ (by omega)]
        obtain ⟨s6, u6, q6, k6, ow6⟩ := add_sign (x := ⟨1, runL (s.drop i), (i : Nat)⟩) k3 ow3 (acc := acc) (by omega) o3 (.str s) (.int .i64 ((i + (runL (s.drop i)).length : Nat) : Int)) (g24b1100 f)
        rw [q6]
        have hd' : s[i] :: s.drop (i + 1) = s.drop i := hd.symm
        rw [hd']
        by_cases h16 : 16 < (runL (s.drop i)).length
        · rw [if_pos h16, if_pos h16]
          exact ⟨s6, u6, rfl, k6⟩
        · rw [if_neg h16, if_neg h16]
          obtain ⟨st', u', r1, r2⟩ := ih f (i + (runL (s.drop i)).length) (acc ++ [⟨1, runL (s.drop i), (i : Nat)⟩]) s6 u6 (by omega) (by omega) (by omega) (by simp; omega) k6 ow6
          refine ⟨st', u', ?_, r2⟩
          rw [r1, List.drop_drop]
          cases lex n (i + (runL (s.drop i)).length) (s.drop (i + (runL (s.drop i)).length)) with
          | ok l => simp [sgR, LR.cons]
          | bad k => rfl
      | false =>
        rw [cond_false, if_neg (by simp)]
        -- the rest, by whether it is a name
        have rest : ∀ v : Bool, (v = true ↔ s[i] = 63 ∧ runL (s.drop (i + 1)) ≠ []) →
            ∃ st' u', g24bz2hjz (g24b1100 f) (.str s) (.lst (acc.map sgV) u) (.int .i64 (i : Nat)) (.ptr p 0) (.int .u8 s[i].toNat) (.bool v) s2 = some (.ret (sgR acc u' (if s[i] = 63 ∧ runL (s.drop (i + 1)) ≠ [] then (if 16 < (runL (s.drop (i + 1))).length then .bad i else (lex n (i + (runL (s.drop (i + 1))).length + 1) ((s.drop (i + 1)).drop (runL (s.drop (i + 1))).length)).cons ⟨2, runL (s.drop (i + 1)), i⟩) else if marksL.contains s[i] = true then (lex n (i + 1) (s.drop (i + 1))).cons ⟨3, [s[i]], i⟩ else .bad i)), st') ∧ Ks st0 st' := by
          intro v hv
          unfold g24bz2hjz
          cases v with
          | true =>
            have hc := hv.1 rfl
            rw [cond_true, if_pos hc, e4, slC]
            simp only [er1_str, run_s (s.drop (i + 1)) (by simp; omega), ret_ret, faddr_ptr, Nat.zero_add]
            have s3 : ∀ K : St → Res, A.store 1 (.ptr p 0) (.int .i64 2) s2 K = K (s2.put p (.cells [.int .i64 2, .str [s[i]], .int .i64 (i : Nat)])) := fun K => by rw [store_ob _ _ _ _ _ rfl, o2]; rfl
            have s4 : ∀ K : St → Res, A.store 1 (.ptr p 1) (.str (runL (s.drop (i + 1)))) (s2.put p (.cells [.int .i64 2, .str [s[i]], .int .i64 (i : Nat)])) K = K (s2.put p (.cells [.int .i64 2, .str (runL (s.drop (i + 1))), .int .i64 (i : Nat)])) := fun K => by rw [store_ob _ _ _ _ _ rfl, put_at]; simp
            rw [s3, s4]
            have k3 : Ks st0 (s2.put p (.cells [.int .i64 2, .str (runL (s.drop (i + 1))), .int .i64 (i : Nat)])) := k2.put hpn _
            have o3 := put_at s2 p (.cells [.int .i64 2, .str (runL (s.drop (i + 1))), .int .i64 (i : Nat)])
            have ow3 : Own st0 (s2.put p (.cells [.int .i64 2, .str (runL (s.drop (i + 1))), .int .i64 (i : Nat)])) 3 u := by
              rcases ow2 with g | g | ⟨j, g1, g2, g3, g4⟩
              · exact .inl g
              · exact .inr (.inl g)
              · exact .inr (.inr ⟨j, g1, g2, by simpa using g3, by simpa using g4⟩)
            generalize s2.put p (.cells [.int .i64 2, .str (runL (s.drop (i + 1))), .int .i64 (i : Nat)]) = s5 at k3 o3 ow3 ⊢
            have w1 : ∀ K : V → St → Res, A.load false 1 (.ptr p 1) s5 K = K (.str (runL (s.drop (i + 1)))) s5 := fun K => by simp [o3]
            have hrl := runL_le (s.drop (i + 1))
            simp only [List.length_drop] at hrl
            simp only [w1, lenS_str]
            rw [bin_inc (by omega), bin_addN i ((runL (s.drop (i + 1))).length + 1) _ (by omega)]
            obtain ⟨s6, u6, q6, k6, ow6⟩ := add_sign (x := ⟨2, runL (s.drop (i + 1)), (i : Nat)⟩) k3 ow3 (acc := acc) (by omega) o3 (.str s) (.int .i64 ((i + ((runL (s.drop (i + 1))).length + 1) : Nat) : Int)) (g24b1100 f)
            rw [q6]
            by_cases h16 : 16 < (runL (s.drop (i + 1))).length
            · rw [if_pos h16, if_pos h16]
              exact ⟨s6, u6, rfl, k6⟩
            · rw [if_neg h16, if_neg h16]
              obtain ⟨st', u', r1, r2⟩ := ih f (i + ((runL (s.drop (i + 1))).length + 1)) (acc ++ [⟨2, runL (s.drop (i + 1)), (i : Nat)⟩]) s6 u6 (by omega) (by omega) (by omega) (by simp; omega) k6 ow6
              refine ⟨st', u', ?_, r2⟩
              rw [r1, List.drop_drop, show i + 1 + (runL (s.drop (i + 1))).length = i + ((runL (s.drop (i + 1))).length + 1) by omega, show i + (runL (s.drop (i + 1))).length + 1 = i + ((runL (s.drop (i + 1))).length + 1) by omega]
              cases lex n (i + ((runL (s.drop (i + 1))).length + 1)) (s.drop (i + ((runL (s.drop (i + 1))).length + 1))) with
              | ok l => simp [sgR, LR.cons]
              | bad k => rfl
          | false =>
            have hc : ¬ (s[i] = 63 ∧ runL (s.drop (i + 1)) ≠ []) := fun g => by have := hv.2 g; cases this
            rw [cond_false, if_neg hc]
            simp only [er1_str, er1_int, s48_v, ret_ret, bin_lss, byte_back]
            rw [idxB_neg]
            show ∃ st' u', A.cond (.bool (!marksL.contains s[i])) _ _ = _ ∧ _
            cases hm : marksL.contains s[i] with
            | true =>
              rw [Bool.not_true, cond_false, if_pos rfl, e4]
              obtain ⟨s6, u6, q6, k6, ow6⟩ := add_sign (x := ⟨3, [s[i]], (i : Nat)⟩) k2 ow2 (acc := acc) (by omega) o2 (.str s) (.int .i64 ((i + 1 : Nat) : Int)) (g24b1100 f)
              rw [q6, if_neg (by simp)]
              obtain ⟨st', u', r1, r2⟩ := ih f (i + 1) (acc ++ [⟨3, [s[i]], (i : Nat)⟩]) s6 u6 (by omega) (by omega) (by omega) (by simp; omega) k6 ow6
              refine ⟨st', u', ?_, r2⟩
              rw [r1]
              cases lex n (i + 1) (s.drop (i + 1)) with
              | ok l => simp [sgR, LR.cons]
              | bad k => rfl
            | false =>
              rw [Bool.not_false, cond_true, if_neg (by simp)]
              exact ⟨s2, u, rfl, k2⟩
        have e63 : ((s[i].toNat : Int) == 63) = (s[i] == 63) := eqB s[i] 63 (by omega)
        rw [eql_int, if_neg Bool.false_ne_true, e63]
        cases h63 : (s[i] == 63) with
        | true =>
          rw [guard_tt, e4, slC]
          simp only [er1_str, run_s (s.drop (i + 1)) (by simp; omega), ret_ret, eql_str, if_true]
          exact rest _ (by rw [bne_iff_ne]; exact ⟨fun g => ⟨by simpa using h63, g⟩, fun g => g.2⟩)
        | false =>
          rw [guard_ft]
          exact rest false (by constructor; (intro g; cases g); (intro g; rw [g.1] at h63; cases h63))
def sgF (r : LR) : V := match r with
  | .ok l => .tup [.lst (l.map sgV) 0, .int .i64 0, .int .i64 0]
  | .bad k => .tup [.lst [] 0, .int .i64 (k : Nat), .int .i64 80]
def signsV (s : List UInt8) : V := if 4096 < s.length then .tup [.lst [] 0, .int .i64 0, .int .i64 1] else sgF (lexA s)
theorem sgs_pu (l : List Sg) : V.puL (l.map sgV) = true := puL_of fun v hv => by obtain ⟨x, _, rfl⟩ := List.mem_map.1 hv; rfl
theorem sgR_era (u : Nat) (r : LR) : (sgR [] u r).era = sgF r ∧ (sgF r).pu = true := by
  cases r with
  | ok l => exact ⟨rfl, by show V.puL [.lst (l.map sgV) 0, .int .i64 0, .int .i64 0] = true; simp [sgs_pu]⟩
  | bad k => exact ⟨rfl, rfl⟩
theorem signs_s (s : List UInt8) (st : St) : s24 [.str s] st = some (.ret (signsV s), st) := by
  rw [s24_eq]
  unfold signsV
  by_cases h : 4096 < s.length
  · rw [if_pos h]
    refine fg_of (v := .tup [.lst [] 1, .int .i64 0, .int .i64 1]) (st' := st) ?_ (Ks.refl st) rfl
    unfold f24
    simp only [lenS_str, bin_gtr, show ((4096 : Int) < (s.length : Int)) from by omega, decide_true, cond_true, er1_lst, er1_int]
  · rw [if_neg h]
    obtain ⟨st', u', q1, q2⟩ := lex_loop (st0 := st) s (by omega) (s.length + 1) big 0 [] st 1 (by omega) (by omega) (Nat.le_of_lt (lt_big (by omega))) (by simp) (Ks.refl st) (.inl rfl)
    obtain ⟨e1, e2⟩ := sgR_era u' (lexA s)
    rw [← e1]
    refine fg_of (v := sgR [] u' (lexA s)) (st' := st') ?_ q2 (by rw [e1]; exact e2)
    unfold f24
    simp only [lenS_str, bin_gtr, show ¬ ((4096 : Int) < (s.length : Int)) from by omega, decide_false, cond_false]
    exact q1
end Go.Ab
