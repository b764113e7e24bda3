import Derived.Test.YtimidokohhiacaaAbN09g
/- sinewlaw09: QueryBatch, the law. -/
namespace Go.Ab
open Go.Proofs Go.RowKit
set_option linter.unusedVariables false
set_option linter.unusedSimpArgs false
set_option maxRecDepth 100000
/-- A change's text. -/
def chT (c : Chg) : List UInt8 := howW c ++ (32 :: (c.s ++ (10 :: (c.p ++ (32 :: c.o)))))
def chsT : List Chg → List UInt8
  | [] => []
  | [c] => chT c
  | c :: cs => chT c ++ 46 :: chsT cs
theorem addB (a b : List UInt8) (h : a.length + b.length ≤ 100000000) (K : V → Res) : A.bin .add (.str a) (.str b) K = K (.str (a ++ b)) := by simp [A.bin, show a.length + b.length ≤ 4611686018427387904 by omega]
theorem chT_eq (c : Chg) (t : List UInt8) : t ++ (howW c ++ [32]) ++ c.s ++ [10] ++ c.p ++ [32] ++ c.o = t ++ chT c := by
  unfold chT; simp
/-- What comes in front of the i-th. -/
def sepT (i : Nat) : List UInt8 := if i = 0 then [] else [46]
theorem chsT_snoc : ∀ (l : List Chg) (c : Chg), chsT (l ++ [c]) = chsT l ++ (sepT l.length ++ chT c)
  | [], c => by simp [chsT, sepT]
  | [a], c => by simp [chsT, sepT]
  | a :: b :: l, c => by
    have h := chsT_snoc (b :: l) c
    show chT a ++ 46 :: chsT ((b :: l) ++ [c]) = (chT a ++ 46 :: chsT (b :: l)) ++ _
    rw [h]
    simp [sepT]
theorem batch_lex : ∀ cs : List Chg, cs.all okCh = true → cs ≠ [] → LexT (chsT cs) (chsTk cs)
  | [], _, h => absurd rfl h
  | [c], h, _ => by
    have h1 : okCh c = true := by simpa using h
    have := LexT.ch h1 10 (by decide) (rest := []) .nil .nil
    simpa [chsT, chT, chsTk] using this
  | c :: d :: cs, h, _ => by
    rw [List.all_cons, Bool.and_eq_true] at h
    have ih := batch_lex (d :: cs) h.2 (by simp)
    have hm : LexT (46 :: chsT (d :: cs)) (dotS :: chsTk (d :: cs)) := LexT.mark (by decide) (.inl (by decide)) ih
    have := LexT.ch h.1 10 (by decide) (rest := 46 :: chsT (d :: cs)) (.cons part46) hm
    have e1 : chsT (c :: d :: cs) = howW c ++ (32 :: (c.s ++ (10 :: (c.p ++ (32 :: (c.o ++ 46 :: chsT (d :: cs))))))) := by
      show chT c ++ 46 :: chsT (d :: cs) = _
      unfold chT; simp
    rw [e1]
    exact this
theorem why_b {cs : List Chg} (h : cs.length ≤ 64) : whyP ⟨2, [], [], cs⟩ = 0 := by
  unfold whyP
  have h1 : deepA ([] : List AtP) = false := rfl
  rw [if_neg (by simp [h1]), if_neg (by simp [namesP]; omega)]
  rfl
theorem batch_pure {cs : List Chg} (h : okB cs = true) (h4 : (chsT cs).length ≤ 4096) : parseP (chsT cs) = (⟨2, [], [], cs⟩, 0, 0) := by
  unfold okB at h
  simp only [Bool.and_eq_true, decide_eq_true_eq] at h
  obtain ⟨h1, h2, h3⟩ := h
  have hne : cs ≠ [] := List.length_pos_iff.1 h1
  have := chsTk_len cs
  exact parse_tk h4 (batch_lex cs h3 hne) (pReq_chs hne (by omega)) (why_b h2)
theorem chs_app {cs : List Chg} {i : Nat} (h : i < cs.length) : chsT (cs.take (i + 1)) = chsT (cs.take i) ++ (sepT i ++ chT cs[i]) := by
  rw [List.take_add_one, List.getElem?_eq_getElem h, Option.toList_some, chsT_snoc, List.length_take, Nat.min_eq_left (by omega)]
theorem batch_tail (cs : List Chg) (hl : cs.length ≤ 1000000) (hw : ∀ x ∈ cs, x.s.length ≤ 2000000 ∧ x.p.length ≤ 2000000 ∧ x.o.length ≤ 2000000) (hT : (chsT cs).length ≤ 100000000) (st : St) : ∃ st', g8b111 (.lst (cs.map chV) 0) (.str (chsT cs)) st = some (.ret (.bool true), st') := by
  unfold g8b111
  have bu : ∀ K, A.build [(.int .i64 0), (.lst [] 1), (.lst [] 1), (.lst [] 1)] [(0, 1, (.int .i64 2)), (3, 1, .lst (cs.map chV) 0)] K = K (.agg (rqCt ⟨2, [], [], cs⟩ 1 1 0)) := fun K => rfl
  have bx : ∀ (st : St) (K : V → St → Res), A.box (.agg [(.int .i64 0), (.lst [] 1), (.lst [] 1), (.lst [] 1)]) st K = K (.ptr st.n 0) (st.new (.cells (rqCt rq0 1 1 1))) := fun st K => rfl
  rw [bu, bx, sv_all 4 _ (new_at _ _) rfl rfl rfl]
  have o2 := put_at (st.new (.cells (rqCt rq0 1 1 1))) st.n (.cells (rqCt ⟨2, [], [], cs⟩ 1 1 0))
  have n2 : st.n < ((st.new (.cells (rqCt rq0 1 1 1))).put st.n (.cells (rqCt ⟨2, [], [], cs⟩ 1 1 0))).n := by simp
  generalize (st.new (.cells (rqCt rq0 1 1 1))).put st.n (.cells (rqCt ⟨2, [], [], cs⟩ 1 1 0)) = s2 at o2 n2 ⊢
  have ld : ∀ {s : St} (K : V → St → Res), s.ob st.n = some (.cells (rqCt ⟨2, [], [], cs⟩ 1 1 0)) → A.load true 4 (.ptr st.n 0) s K = K (.agg (rqCt ⟨2, [], [], cs⟩ 1 1 0)) s := fun K h => by rw [load_obA, h]; rfl
  have er : (V.agg (rqCt ⟨2, [], [], cs⟩ 1 1 0)).er1 = rqV ⟨2, [], [], cs⟩ := rfl
  rw [ld _ o2, er, check_b cs (by omega), ret_ret]
  simp only [eql_int, if_true]
  have lv : ldv true 4 (.ptr st.n 0) s2 = some (.agg (rqCt ⟨2, [], [], cs⟩ 1 1 0)) := by unfold ldv; rw [ld _ o2]; rfl
  have odd : ∃ st', g8bz3h (.str (chsT cs)) (.ptr st.n 0) (.bool true) s2 = some (.ret (.bool true), st') := by
    unfold g8bz3h
    rw [cond_true, ld _ o2, er, check_b cs (by omega), ret_ret, kid_eq, noP_ret, ld _ o2, lv, chk_same, er, checked_b cs (by omega) (fun x hx => by obtain ⟨a, b, c⟩ := hw x hx; exact ⟨by omega, by omega, by omega⟩), ret_ret, kid_eq, ret_ret, eql_int, if_neg Bool.false_ne_true, beq_self_eq_true, guard_tt, s13_val, ret_ret, kid_eq, ret_ret]
    exact ⟨_, rfl⟩
  by_cases hok : okB cs = true
  case neg =>
    rw [if_neg hok, show ((1 : Int) != 0) = true from rfl, guard_tf]
    exact odd
  rw [if_pos hok, show ((0 : Int) != 0) = false from rfl, guard_ff]
  simp only [lenS_str, bin_gtr]
  by_cases h4 : 4096 < (chsT cs).length
  · rw [decide_eq_true (show ((4096 : Int) < ((chsT cs).length : Int)) by omega)]
    exact odd
  rw [decide_eq_false (show ¬ ((4096 : Int) < ((chsT cs).length : Int)) by omega)]
  unfold g8bz3h
  rw [cond_false]
  unfold g8b11111
  have hpar := batch_pure hok (by omega)
  simp only [er1_str, parse_s, ret_ret, parseV, ext_0, ext_1, ext_2, hpar]
  rw [bx, show A.store 4 (.ptr s2.n 0) (rqV ⟨2, [], [], cs⟩) (s2.new (.cells (rqCt rq0 1 1 1))) = _ from funext fun K => sv_all 4 (rqC _) (new_at _ _) rfl rfl rfl K]
  have o3 := put_at (s2.new (.cells (rqCt rq0 1 1 1))) s2.n (.cells (rqC ⟨2, [], [], cs⟩))
  have o23 : ((s2.new (.cells (rqCt rq0 1 1 1))).put s2.n (.cells (rqC ⟨2, [], [], cs⟩))).ob st.n = some (.cells (rqCt ⟨2, [], [], cs⟩ 1 1 0)) := by
    rw [put_ne _ _ (by omega), new_ne _ _ (by omega)]; exact o2
  generalize (s2.new (.cells (rqCt rq0 1 1 1))).put s2.n (.cells (rqC ⟨2, [], [], cs⟩)) = s3 at o3 o23 ⊢
  have ld3 : ∀ K : V → St → Res, A.load true 4 (.ptr s2.n 0) s3 K = K (rqV ⟨2, [], [], cs⟩) s3 := fun K => by rw [load_obA, o3]; rfl
  have hsm : okS ⟨2, [], [], cs⟩ := ⟨by simp, by simp, by simp only; omega, by simp⟩
  have hsame : sameR ⟨2, [], [], cs⟩ ⟨2, [], [], cs⟩ = true := (sameR_iff _ _).2 rfl
  dsimp only
  rw [ld3, ld _ o23, er, show (rqV ⟨2, [], [], cs⟩).er1 = rqV ⟨2, [], [], cs⟩ from rfl, same_s hsm, hsame, ret_ret, guard_tt]
  unfold g8bz72_8
  simp only [eql_int, Bool.false_eq_true, if_false, beq_self_eq_true, guard_tt, s13_val, ret_ret, er1_bool]
  exact ⟨_, rfl⟩
theorem take_len (cs : List Chg) (hw : ∀ x ∈ cs, x.s.length ≤ 2000000 ∧ x.p.length ≤ 2000000 ∧ x.o.length ≤ 2000000) : ∀ i, i ≤ cs.length → (chsT (cs.take i)).length ≤ i * 8000000
  | 0, _ => by simp [chsT]
  | i + 1, h => by
    have ih := take_len cs hw i (by omega)
    obtain ⟨a, b, c⟩ := hw cs[i] (List.getElem_mem (by omega))
    have hh : (howW cs[i]).length = 6 := by unfold howW; split <;> rfl
    have hs : (sepT i).length ≤ 1 := by unfold sepT; split <;> simp
    rw [chs_app (by omega)]
    simp [chT, hh]; omega
theorem batch_loop8 (cs : List Chg) (hl : cs.length ≤ 1000000) (hw : ∀ x ∈ cs, x.s.length ≤ 2000000 ∧ x.p.length ≤ 2000000 ∧ x.o.length ≤ 2000000) (st : St) : ∀ (n i : Nat), i ≤ cs.length → cs.length < n + i → (chsT (cs.take i)).length ≤ i * 100 →
    ∃ st', g8b11010 n (.lst (cs.map chV) 0) (.str (chsT (cs.take i))) (.int .i64 (i : Nat)) st = some (.ret (.bool true), st') := by
  intro n
  induction n with
  | zero => intro i hi hn; omega
  | succ n ih =>
    intro i hi hn hlen
    rw [g8b11010]
    simp only [lenL_lst, List.length_map, bin_lss]
    by_cases hil : i < cs.length
    case neg =>
      have : i = cs.length := by omega
      subst this
      rw [decide_eq_false (Int.lt_irrefl _), cond_false, List.take_length]
      rw [List.take_length] at hlen
      exact batch_tail cs hl hw (by omega) st
    rw [decide_eq_true (show ((i : Int) < (cs.length : Int)) by omega), cond_true, bin_geq]
    by_cases h64 : 64 ≤ i
    · rw [decide_eq_true (show ((64 : Int) ≤ (i : Int)) by omega), guard_tf, s13_val, ret_ret]
      exact ⟨_, rfl⟩
    rw [decide_eq_false (show ¬ ((64 : Int) ≤ (i : Int)) by omega), guard_ff]
    obtain ⟨z1, z2, z3⟩ := hw cs[i] (List.getElem_mem hil)
    have f1 : ∀ K : V → Res, A.faddr 1 (.lptr (chC cs[i])) K = K (.lptr [.str cs[i].s, .str cs[i].p, .str cs[i].o]) := fun K => rfl
    have f2 : ∀ K : V → Res, A.faddr 0 (.lptr [.str cs[i].s, .str cs[i].p, .str cs[i].o]) K = K (.lptr [.str cs[i].s, .str cs[i].p, .str cs[i].o]) := fun K => rfl
    have f3 : ∀ K : V → Res, A.faddr 1 (.lptr [.str cs[i].s, .str cs[i].p, .str cs[i].o]) K = K (.lptr [.str cs[i].p, .str cs[i].o]) := fun K => rfl
    have f4 : ∀ K : V → Res, A.faddr 2 (.lptr [.str cs[i].s, .str cs[i].p, .str cs[i].o]) K = K (.lptr [.str cs[i].o]) := fun K => rfl
    rw [iaddr_ch 0 hil, f1, f2, load_l1', lenS_str, iaddr_ch 0 hil, f1, f3, load_l1', lenS_str, bin_addN _ _ _ (by omega), iaddr_ch 0 hil, f1, f4, load_l1', lenS_str, bin_addN _ _ _ (by omega), bin_gtr]
    by_cases h60 : 60 < cs[i].s.length + cs[i].p.length + cs[i].o.length
    · rw [decide_eq_true (show ((60 : Int) < ((cs[i].s.length + cs[i].p.length + cs[i].o.length : Nat) : Int)) by omega), cond_true, s13_val, ret_ret]
      exact ⟨_, rfl⟩
    rw [decide_eq_false (show ¬ ((60 : Int) < ((cs[i].s.length + cs[i].p.length + cs[i].o.length : Nat) : Int)) by omega), cond_false]
    have hh : (howW cs[i]).length = 6 := by unfold howW; split <;> rfl
    have hsl : (sepT i).length ≤ 1 := by unfold sepT; split <;> simp
    -- the text goes on
    have body : ∀ t : List UInt8, t = chsT (cs.take i) ++ sepT i → ∃ st', g8bz2vn (g8b11010 n) (.lst (cs.map chV) 0) (.str t) (.int .i64 (i : Nat)) st = some (.ret (.bool true), st') := by
      intro t ht
      have htl : t.length ≤ i * 100 + 1 := by rw [ht, List.length_append]; omega
      have main : ∃ st', g8bzbin (g8b11010 n) (.lst (cs.map chV) 0) (.str t) (.int .i64 (i : Nat)) (.str (howW cs[i] ++ [32])) st = some (.ret (.bool true), st') := by
        unfold g8bzbin
        rw [addB _ _ (by simp; omega), iaddr_ch 0 hil, f1, f2, load_l1', addB _ _ (by simp; omega), addB _ _ (by simp; omega), iaddr_ch 0 hil, f1, f3, load_l1', addB _ _ (by simp; omega), addB _ _ (by simp; omega), iaddr_ch 0 hil, f1, f4, load_l1', addB _ _ (by simp; omega), bin_inc (by omega), chT_eq]
        have e : t ++ chT cs[i] = chsT (cs.take (i + 1)) := by rw [chs_app hil, ht, List.append_assoc]
        rw [e]
        refine ih (i + 1) (by omega) (by omega) ?_
        rw [← e]
        simp [chT, hh]; omega
      unfold g8bz2vn
      rw [iaddr_ch 0 hil]
      have f0 : ∀ K : V → Res, A.faddr 0 (.lptr (chC cs[i])) K = K (.lptr (chC cs[i])) := fun K => rfl
      have l0 : ∀ K : V → St → Res, A.load false 1 (.lptr (chC cs[i])) st K = K (.bool cs[i].gone) st := fun K => rfl
      rw [f0, l0]
      cases hg : cs[i].gone with
      | true =>
        rw [cond_true]
        have hw : howW cs[i] ++ [32] = [100, 101, 108, 101, 116, 101, 32] := by unfold howW; rw [hg]; rfl
        rw [hw] at main; exact main
      | false =>
        rw [cond_false]
        have hw : howW cs[i] ++ [32] = [105, 110, 115, 101, 114, 116, 32] := by unfold howW; rw [hg]; rfl
        rw [hw] at main; exact main
    unfold g8bz1ft
    rw [bin_gtr]
    by_cases h0 : i = 0
    · rw [decide_eq_false (show ¬ ((0 : Int) < (i : Int)) by omega), cond_false]
      exact body _ (by unfold sepT; rw [if_pos h0, List.append_nil])
    · rw [decide_eq_true (show ((0 : Int) < (i : Int)) by omega), cond_true, addB _ _ (by simp; omega)]
      exact body _ (by unfold sepT; rw [if_neg h0])
theorem batch_law (cs : List Chg) (hl : cs.length ≤ 1000000) (hw : ∀ x ∈ cs, x.s.length ≤ 2000000 ∧ x.p.length ≤ 2000000 ∧ x.o.length ≤ 2000000) (st : St) : ∃ st', s8 [.lst (cs.map chV) 0] st = some (.ret (.bool true), st') := by
  rw [s8_eq]
  unfold f8
  obtain ⟨st', q1⟩ := batch_loop8 cs hl hw st big 0 (by omega) (lt_big (by omega)) (by simp [chsT])
  rw [show ((0 : Nat) : Int) = 0 from rfl, List.take_zero] at q1
  exact ⟨st', q1⟩
end Go.Ab
