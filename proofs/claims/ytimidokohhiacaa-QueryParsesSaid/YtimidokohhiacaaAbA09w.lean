import Derived.Test.YtimidokohhiacaaAbA09h
import Derived.Test.YtimidokohhiacaaAbP09r
/- sinewref08: the walk of Signs. -/
namespace Go.Ab
open Go.Proofs Go.RowKit
set_option linter.unusedVariables false
set_option linter.unusedSimpArgs false
set_option maxRecDepth 100000
theorem rpart_s (b : UInt8) (st : St) : s84 [.int .u8 b.toNat] st = some (.ret (.bool (partB b)), st) := by
  rw [s84_eq]
  unfold f84 g84b10_7 g84b10_15 partB partI
  simp only [bin_geq, bin_leq, eql_int, Bool.false_eq_true, if_false, er1_bool]
  cases decide ((48 : Int) ≤ (b.toNat : Int)) <;> cases decide ((b.toNat : Int) ≤ 57) <;> cases decide ((97 : Int) ≤ (b.toNat : Int)) <;> cases decide ((b.toNat : Int) ≤ 122) <;> cases ((b.toNat : Int) == 45) <;> cases ((b.toNat : Int) == 58) <;> rfl
theorem rrun_loop (s : List UInt8) (hs : s.length ≤ 100000) (i : Nat) (st : St) : ∀ (n j : Nat), i + j ≤ s.length → s.length < n + (i + j) → g54b1100 n (.str s) (.int .i64 (i : Nat)) (.int .i64 (j : Nat)) st = some (.ret (.int .i64 ((j + (runL (s.drop (i + j))).length : Nat) : Int)), st) := by
  intro n
  induction n with
  | zero => intro j hi hn; omega
  | succ n ih =>
    intro j hi hn
    rw [g54b1100]
    have ea : ∀ K, A.bin .add (.int .i64 (i : Nat)) (.int .i64 (j : Nat)) K = K (.int .i64 ((i + j : Nat) : Int)) := fun K => bin_addN i j K (by omega)
    simp only [ea, lenS_str, bin_lss]
    by_cases hil : i + j < s.length
    · simp only [show (((i + j : Nat) : Int) < (s.length : Int)) from by omega, decide_true, guard_tt, idxS_at hil, er1_int, rpart_s, ret_ret]
      rw [List.drop_eq_getElem_cons hil]
      cases hp : partB s[i + j] with
      | true =>
        rw [cond_true, bin_inc (by omega), ih (j + 1) (by omega) (by omega), runL_cons hp, List.length_cons]
        rw [show i + (j + 1) = i + j + 1 by omega, show j + 1 + (runL (s.drop (i + j + 1))).length = j + ((runL (s.drop (i + j + 1))).length + 1) by omega]
      | false => rw [cond_false, runL_no hp]; rfl
    · simp only [show ¬ (((i + j : Nat) : Int) < (s.length : Int)) from by omega, decide_false, guard_ft]
      rw [List.drop_of_length_le (by omega)]; rfl
theorem rrun_s (s : List UInt8) (hs : s.length ≤ 100000) (i : Nat) (hi : i ≤ s.length) (st : St) : s54 [.str s, .int .i64 (i : Nat)] st = some (.ret (.int .i64 ((runL (s.drop i)).length : Nat)), st) := by
  rw [s54_eq]
  unfold f54
  have := rrun_loop s hs i st big 0 (by omega) (Nat.lt_of_lt_of_le (lt_big (n := s.length) (by omega)) (Nat.le_add_right _ _))
  rw [Nat.zero_add] at this
  exact this
theorem gor2 (p a b : Bool) (F : V → Res) : A.guard (.bool p) false (A.guard (.bool a) false (F (.bool b)) (F (.bool true))) (F (.bool true)) = F (.bool (p || (a || b))) := by cases p <;> cases a <;> rfl
theorem gor1 (a b : Bool) (F : V → Res) : A.guard (.bool a) false (F (.bool b)) (F (.bool true)) = F (.bool (a || b)) := by cases a <;> rfl
theorem rmarkc_s (b : UInt8) (st : St) : s55 [.int .u8 b.toNat] st = some (.ret (.bool (marksL.contains b)), st) := by
  rw [s55_eq]
  unfold f55
  simp only [eql_int, Bool.false_eq_true, if_false]
  rw [gor1 _ _ fun v => g55b10_7 _ v st]
  unfold g55b10_7
  simp only [eql_int, Bool.false_eq_true, if_false]
  rw [gor2 _ _ _ fun v => g55b10_15 _ v st]
  unfold g55b10_15
  simp only [eql_int, Bool.false_eq_true, if_false]
  rw [gor2 _ _ _ fun v => g55b10_23 _ v st]
  unfold g55b10_23
  simp only [eql_int, Bool.false_eq_true, if_false]
  rw [gor2 _ _ _ fun v => g55b10_31 _ v st]
  unfold g55b10_31
  simp only [eql_int, Bool.false_eq_true, if_false, er1_bool]
  rw [gor2 _ _ _ fun v => some (.ret v, st)]
  have e : ∀ k : Nat, k < 256 → ((b.toNat : Int) == (k : Int)) = (b == k.toUInt8) := fun k hk => eqB b k hk
  rw [show (((b.toNat : Int) == 123)) = (b == 123) from e 123 (by omega), show (((b.toNat : Int) == 125)) = (b == 125) from e 125 (by omega), show (((b.toNat : Int) == 40)) = (b == 40) from e 40 (by omega), show (((b.toNat : Int) == 41)) = (b == 41) from e 41 (by omega), show (((b.toNat : Int) == 46)) = (b == 46) from e 46 (by omega), show (((b.toNat : Int) == 47)) = (b == 47) from e 47 (by omega), show (((b.toNat : Int) == 124)) = (b == 124) from e 124 (by omega), show (((b.toNat : Int) == 42)) = (b == 42) from e 42 (by omega), show (((b.toNat : Int) == 43)) = (b == 43) from e 43 (by omega), show (((b.toNat : Int) == 63)) = (b == 63) from e 63 (by omega)]
  congr 4
  simp only [marksL, List.contains_cons, List.contains_nil, Bool.or_assoc, Bool.or_false]
/-- One more sign, if it is not too long. -/
theorem radd_sign {st0 st : St} {u p i : Nat} {acc : List Sg} {x : Sg} (hk : Ks st0 st) (ho : Own st0 st 3 u) (hl : acc.length ≤ 100000) (hi : i ≤ 100000) (oi : st.ob p = some (.cells [.int .i64 x.k, .str x.tx, .int .i64 x.at_])) (hx : x.tx.length ≤ 100000) (s : V) (L : V → V → V → St → Res) :
    ∃ st' u', g27bzc33 L s (.lst (acc.map sgV) u) (.int .i64 (i : Nat)) (.ptr p 0) st = (if 16 < x.tx.length then some (Out.ret (.tup [.lst [] 1, .int .i64 (i : Nat), .int .i64 80]), st') else L s (.lst ((acc ++ [x]).map sgV) u') (.int .i64 ((if x.k = 2 then i + x.tx.length + 1 else i + x.tx.length : Nat) : Int)) st') ∧ Ks st0 st' ∧ Own st0 st' 3 u' := by
  unfold g27bzc33
  have w0 : ∀ (s : St), s.ob p = st.ob p → ∀ K : V → St → Res, A.load false 1 (.ptr p 0) s K = K (.int .i64 x.k) s := fun s h K => by rw [load_ob, h, oi]; rfl
  have w1 : ∀ (s : St), s.ob p = st.ob p → ∀ K : V → St → Res, A.load false 1 (.ptr p 1) s K = K (.str x.tx) s := fun s h K => by rw [load_ob, h, oi]; rfl
  have w3 : ∀ K : V → St → Res, A.load true 3 (.ptr p 0) st K = K (sgV x) st := fun K => by rw [load_obA, oi]; rfl
  rw [faddr_ptr, Nat.zero_add, w1 st rfl, lenS_str, bin_gtr]
  by_cases h : 16 < x.tx.length
  · rw [decide_eq_true (show ((16 : Int) < (x.tx.length : Int)) by omega), cond_true]
    exact ⟨st, u, by rw [if_pos h]; rfl, hk, ho⟩
  · rw [decide_eq_false (show ¬ ((16 : Int) < (x.tx.length : Int)) by omega), cond_false, w3, bs_sg]
    rw [show elemsOf 5 3 (.lst [sgV x] 2) st = some [sgV x] from elemsOf_lst 3 _ 2 st (sgs_ok [x]), app_own _ ho (by simp; omega) (sgs_ok acc)]
    obtain ⟨k2, o2⟩ := ho.app hk
    unfold g27bz1ccf
    have ho2 : (appSt st u 3).ob p = st.ob p := by rw [appSt_ob]
    rw [faddr_ptr, Nat.zero_add, w1 _ ho2, lenS_str, bin_addN i x.tx.length _ (by omega), faddr_ptr, Nat.zero_add, w0 _ ho2, eql_int, if_neg Bool.false_ne_true]
    refine ⟨appSt st u 3, st.nt + 3, ?_, k2, o2⟩
    rw [if_neg h]
    by_cases h2 : x.k = 2
    · rw [show (x.k == 2) = true from by rw [h2]; rfl, cond_true, if_pos h2, bin_inc (by omega), List.map_append]; rfl
    · rw [show (x.k == 2) = false from beq_eq_false_iff_ne.2 h2, cond_false, if_neg h2, List.map_append]; rfl
theorem rlex_loop {st0 : St} (s : List UInt8) (hs : s.length ≤ 100000) : ∀ (n f i : Nat) (acc : List Sg) (st : St) (u : Nat), i ≤ s.length → s.length - i < n → n ≤ f → acc.length ≤ i → Ks st0 st → Own st0 st 3 u →
    ∃ st' u', g27bz3e f (.str s) (.lst (acc.map sgV) u) (.int .i64 (i : Nat)) st = some (.ret (sgR acc u' (lex n i (s.drop i))), st') ∧ Ks st0 st' := by
  intro n
  induction n with
  | zero => intro f i acc st u h1 h2; omega
  | succ n ih =>
    intro f i acc st u hi hn hf hacc hk ho
    obtain ⟨f, rfl⟩ : ∃ f', f = f' + 1 := ⟨f - 1, by omega⟩
    rw [g27bz3e]
    simp only [lenS_str, bin_lss]
    by_cases hil : i < s.length
    case neg =>
      have : i = s.length := by omega
      subst this
      simp only [Int.lt_irrefl, decide_false, cond_false, List.drop_length, er1_lst, er1_int]
      refine ⟨st, u, ?_, hk⟩
      show _ = some (Out.ret (.tup [.lst ((acc ++ []).map sgV) u, .int .i64 0, .int .i64 0]), st)
      rw [List.append_nil]
    have e4 : ∀ K, A.bin .add (.int .i64 (i : Nat)) (.int .i64 1) K = K (.int .i64 ((i + 1 : Nat) : Int)) := fun K => bin_inc (by omega) K
    have hd : s.drop i = s[i] :: s.drop (i + 1) := List.drop_eq_getElem_cons hil
    have slA : ∀ (a r : Nat) K, a + r ≤ s.length → A.sliceS (.str s) (some (.int .i64 (a : Nat))) (some (.int .i64 ((a + r : Nat) : Int))) K = K (.str ((s.drop a).take r)) := fun a r K h => by
      simp only [A.sliceS, bnd, Int.natCast_nonneg, if_true, Int.toNat_natCast, if_pos (show a ≤ a + r ∧ a + r ≤ s.length by omega)]
      rw [List.drop_take, show a + r - a = r by omega]
    have sl1 : (s.drop i).take 1 = [s[i]] := by rw [hd]; rfl
    have bu : ∀ K, A.build [(.int .i64 0), (.str []), (.int .i64 0)] [(0, 1, (.int .i64 3)), (1, 1, .str [s[i]]), (2, 1, .int .i64 (i : Nat))] K = K (.agg [.int .i64 3, .str [s[i]], .int .i64 (i : Nat)]) := fun K => rfl
    simp only [show ((i : Int) < (s.length : Int)) from by omega, decide_true, cond_true, idxS_at hil, eql_int, Bool.false_eq_true, if_false, e4]
    -- a blank, or not
    have fork : ∀ (X Y : Res), (A.guard (.bool ((s[i].toNat : Int) == 32)) false (A.guard (.bool ((s[i].toNat : Int) == 9)) false (A.cond (.bool ((s[i].toNat : Int) == 10)) X Y) X) X) = if blB s[i] = true then X else Y := fun X Y => by
      unfold blB blI
      cases ((s[i].toNat : Int) == 32) <;> cases ((s[i].toNat : Int) == 9) <;> cases ((s[i].toNat : Int) == 10) <;> rfl
    rw [fork, hd, lex]
    by_cases hbl : blB s[i] = true
    · rw [if_pos hbl, if_pos hbl]
      exact ih f (i + 1) acc st u (by omega) (by omega) (by omega) (by omega) hk ho
    rw [if_neg hbl, if_neg hbl]
    unfold g27bz30r
    rw [e4, slA i 1 _ (by omega), sl1, bu, bx_sg, sv_all 3 _ (new_at _ _) rfl rfl rfl]
    have k2 : Ks st0 ((st.new (.cells [.int .i64 0, .str [], .int .i64 0])).put st.n (.cells [.int .i64 3, .str [s[i]], .int .i64 (i : Nat)])) := (hk.new _).put hk.n _
    have o2 := put_at (st.new (.cells [.int .i64 0, .str [], .int .i64 0])) st.n (.cells [.int .i64 3, .str [s[i]], .int .i64 (i : Nat)])
    have ow2 : Own st0 ((st.new (.cells [.int .i64 0, .str [], .int .i64 0])).put st.n (.cells [.int .i64 3, .str [s[i]], .int .i64 (i : Nat)])) 3 u := own_putnew ho
    generalize hp : st.n = p at o2 ⊢
    rw [hp] at k2 ow2
    have hpn : st0.n ≤ p := by rw [← hp]; exact hk.n
    generalize (st.new (.cells [.int .i64 0, .str [], .int .i64 0])).put p (.cells [.int .i64 3, .str [s[i]], .int .i64 (i : Nat)]) = s2 at k2 o2 ow2 ⊢
    simp only [er1_str, er1_int, rrun_s s hs i (by omega), ret_ret]
    unfold g27bzo65
    simp only [bin_gtr]
    have ow3 : ∀ o, Own st0 (s2.put p o) 3 u := fun o => by
      rcases ow2 with g | g | ⟨j, g1, g2, g3, g4⟩
      · exact .inl g
      · exact .inr (.inl g)
      · exact .inr (.inr ⟨j, g1, g2, by simpa using g3, by simpa using g4⟩)
    -- the two cells
    have sto : ∀ (k : Int) (a : List UInt8) (K : St → Res), A.store 1 (.ptr p 0) (.int .i64 k) s2 (fun z => A.store 1 (.ptr p 1) (.str a) z K) = K (s2.put p (.cells [.int .i64 k, .str a, .int .i64 (i : Nat)])) := fun k a K => by
      rw [store_ob _ _ _ _ _ rfl, o2]
      show A.store 1 (.ptr p 1) (.str a) (s2.put p (.cells [.int .i64 k, .str [s[i]], .int .i64 (i : Nat)])) K = _
      rw [store_ob _ _ _ _ _ rfl, put_at]; simp
    cases hpt : partB s[i] with
    | true =>
      have hrl := runL_le (s.drop i)
      have hrl1 : 1 ≤ (runL (s.drop i)).length := by rw [hd, runL_cons hpt]; simp
      simp only [List.length_drop] at hrl
      rw [decide_eq_true (show ((0 : Int) < ((runL (s.drop i)).length : Int)) by omega), cond_true, if_pos rfl]
      have addr : ∀ K, A.bin .add (.int .i64 (i : Nat)) (.int .i64 ((runL (s.drop i)).length : Nat)) K = K (.int .i64 ((i + (runL (s.drop i)).length : Nat) : Int)) := fun K => bin_addN i _ K (by omega)
      simp only [faddr_ptr, Nat.zero_add, addr, slA i (runL (s.drop i)).length _ (by omega)]
      rw [← runL_drop (s.drop i) i, sto]
      obtain ⟨s6, u6, q6, k6, ow6⟩ := radd_sign (x := ⟨1, runL (s.drop i), (i : Nat)⟩) (k2.put hpn _) (ow3 _) (acc := acc) (by omega) (i := i) (by omega) (put_at s2 p _) (by simp only; omega) (.str s) (g27bz3e f)
      rw [q6]
      have hd' : s[i] :: s.drop (i + 1) = s.drop i := hd.symm
      rw [hd']
      by_cases h16 : 16 < (runL (s.drop i)).length
      · rw [if_pos h16, if_pos h16]
        exact ⟨s6, u6, rfl, k6⟩
      · rw [if_neg h16, if_neg h16, if_neg (show ¬ ((1 : Int) = 2) by decide)]
        obtain ⟨st', u', r1, r2⟩ := ih f (i + (runL (s.drop i)).length) (acc ++ [⟨1, runL (s.drop i), (i : Nat)⟩]) s6 u6 (by omega) (by omega) (by omega) (by simp; omega) k6 ow6
        refine ⟨st', u', ?_, r2⟩
        rw [r1, List.drop_drop]
        cases lex n (i + (runL (s.drop i)).length) (s.drop (i + (runL (s.drop i)).length)) with
        | ok l => simp [sgR, LR.cons]
        | bad k => rfl
    | false =>
      have hr0 : runL (s.drop i) = [] := by rw [hd, runL_no hpt]
      rw [hr0, List.length_nil, decide_eq_false (show ¬ ((0 : Int) < ((0 : Nat) : Int)) by omega), cond_false, if_neg (by simp)]
      simp only [e4, er1_str, er1_int, rrun_s s hs (i + 1) (by omega), ret_ret, bin_gtr]
      have rest : ∀ v : Bool, (v = true ↔ s[i] = 63 ∧ runL (s.drop (i + 1)) ≠ []) →
          ∃ st' u', g27bzaqqn (g27bz3e f) (.str s) (.lst (acc.map sgV) u) (.int .i64 (i : Nat)) (.int .u8 s[i].toNat) (.ptr p 0) (.int .i64 ((runL (s.drop (i + 1))).length : Nat)) (.bool v) s2 = some (.ret (sgR acc u' (if s[i] = 63 ∧ runL (s.drop (i + 1)) ≠ [] then (if 16 < (runL (s.drop (i + 1))).length then .bad i else (lex n (i + (runL (s.drop (i + 1))).length + 1) ((s.drop (i + 1)).drop (runL (s.drop (i + 1))).length)).cons ⟨2, runL (s.drop (i + 1)), i⟩) else if marksL.contains s[i] = true then (lex n (i + 1) (s.drop (i + 1))).cons ⟨3, [s[i]], i⟩ else .bad i)), st') ∧ Ks st0 st' := by
        intro v hv
        unfold g27bzaqqn
        cases v with
        | true =>
          have hc := hv.1 rfl
          have hrl := runL_le (s.drop (i + 1))
          simp only [List.length_drop] at hrl
          have addr : ∀ K, A.bin .add (.int .i64 ((i + 1 : Nat) : Int)) (.int .i64 ((runL (s.drop (i + 1))).length : Nat)) K = K (.int .i64 ((i + 1 + (runL (s.drop (i + 1))).length : Nat) : Int)) := fun K => bin_addN (i + 1) _ K (by omega)
          rw [cond_true, if_pos hc]
          simp only [faddr_ptr, Nat.zero_add, e4, addr, slA (i + 1) (runL (s.drop (i + 1))).length _ (by omega)]
          rw [← runL_drop (s.drop (i + 1)) i, sto]
          obtain ⟨s6, u6, q6, k6, ow6⟩ := radd_sign (x := ⟨2, runL (s.drop (i + 1)), (i : Nat)⟩) (k2.put hpn _) (ow3 _) (acc := acc) (by omega) (i := i) (by omega) (put_at s2 p _) (by simp only; omega) (.str s) (g27bz3e f)
          rw [q6]
          by_cases h16 : 16 < (runL (s.drop (i + 1))).length
          · rw [if_pos h16, if_pos h16]
            exact ⟨s6, u6, rfl, k6⟩
          · rw [if_neg h16, if_neg h16, if_pos rfl]
            obtain ⟨st', u', r1, r2⟩ := ih f (i + (runL (s.drop (i + 1))).length + 1) (acc ++ [⟨2, runL (s.drop (i + 1)), (i : Nat)⟩]) s6 u6 (by omega) (by omega) (by omega) (by simp; omega) k6 ow6
            refine ⟨st', u', ?_, r2⟩
            rw [r1, List.drop_drop, show i + 1 + (runL (s.drop (i + 1))).length = i + (runL (s.drop (i + 1))).length + 1 by omega]
            cases lex n (i + (runL (s.drop (i + 1))).length + 1) (s.drop (i + (runL (s.drop (i + 1))).length + 1)) with
            | ok l => simp [sgR, LR.cons]
            | bad k => rfl
        | false =>
          have hc : ¬ (s[i] = 63 ∧ runL (s.drop (i + 1)) ≠ []) := fun g => by have := hv.2 g; cases this
          rw [cond_false, if_neg hc]
          simp only [er1_int, rmarkc_s, ret_ret, un_not]
          cases hm : marksL.contains s[i] with
          | true =>
            rw [Bool.not_true, cond_false, if_pos rfl]
            obtain ⟨s6, u6, q6, k6, ow6⟩ := radd_sign (x := ⟨3, [s[i]], (i : Nat)⟩) k2 ow2 (acc := acc) (by omega) (i := i) (by omega) o2 (by simp) (.str s) (g27bz3e f)
            rw [q6, if_neg (by simp), if_neg (show ¬ ((3 : Int) = 2) by decide)]
            obtain ⟨st', u', r1, r2⟩ := ih f (i + 1) (acc ++ [⟨3, [s[i]], (i : Nat)⟩]) s6 u6 (by omega) (by omega) (by omega) (by simp; omega) k6 ow6
            refine ⟨st', u', ?_, r2⟩
            show g27bz3e f _ _ (.int .i64 ((i + 1 : Nat) : Int)) s6 = _
            rw [r1]
            cases lex n (i + 1) (s.drop (i + 1)) with
            | ok l => simp [sgR, LR.cons]
            | bad k => rfl
          | false =>
            rw [Bool.not_false, cond_true, if_neg (by simp)]
            exact ⟨s2, u, rfl, k2⟩
      have e63 : ((s[i].toNat : Int) == 63) = (s[i] == 63) := eqB s[i] 63 (by omega)
      rw [eql_int, if_neg Bool.false_ne_true, e63]
      cases h63 : (s[i] == 63) with
      | true =>
        rw [guard_tt]
        refine rest _ ?_
        rw [decide_eq_true_iff]
        constructor
        · intro g
          refine ⟨by simpa using h63, fun h => ?_⟩
          rw [h] at g; simp at g
        · rintro ⟨_, g⟩
          have := List.length_pos_iff.2 g
          omega
      | false =>
        rw [guard_ft]
        exact rest false (by constructor; (intro g; cases g); (intro g; rw [g.1] at h63; cases h63))
theorem rsigns_s (s : List UInt8) (st : St) : s27 [.str s] st = some (.ret (signsV s), st) := by
  rw [s27_eq]
  unfold signsV
  by_cases h : 4096 < s.length
  · rw [if_pos h]
    refine fg_of (v := .tup [.lst [] 1, .int .i64 0, .int .i64 1]) (st' := st) ?_ (Ks.refl st) rfl
    unfold f27
    simp only [lenS_str, bin_gtr, show ((4096 : Int) < (s.length : Int)) from by omega, decide_true, cond_true, er1_lst, er1_int]
  · rw [if_neg h]
    obtain ⟨st', u', q1, q2⟩ := rlex_loop (st0 := st) s (by omega) (s.length + 1) big 0 [] st 1 (by omega) (by omega) (Nat.le_of_lt (lt_big (by omega))) (by simp) (Ks.refl st) (.inl rfl)
    obtain ⟨e1, e2⟩ := sgR_era u' (lexA s)
    rw [← e1]
    refine fg_of (v := sgR [] u' (lexA s)) (st' := st') ?_ q2 (by rw [e1]; exact e2)
    unfold f27
    simp only [lenS_str, bin_gtr, show ¬ ((4096 : Int) < (s.length : Int)) from by omega, decide_false, cond_false]
    unfold g27b11101
    exact q1
end Go.Ab
