import Derived.Test.YtjemnldcpafepaaAbW14
/- sinewlaw14: begun, quietNow, awake. -/
namespace Go.Ab
open Go.RowKit
set_option linter.unusedVariables false
set_option linter.unusedSimpArgs false
variable {n i p g wid tn tu tt v : Nat} {d : Nd} {st : St} {ids : Nat → Nat} {S : Sw}

/-- All is quiet. -/
def Quiet (n : Nat) (S : Sw) : Prop := S.under = [] ∧ S.tells = [] ∧ ∀ i, i < n → (S.nd i).works = false ∧ S.work i = 0
theorem quiet_loop (h : At n g ids wid tn tu tt st S) (hq : Quiet n S) (hn : n ≤ 1000) : ∀ (k N j : Nat), j + k = n → k < N → g13b11010 N (.ptr g 0) (.int .i64 (j : Nat)) st = some (.ret (.bool true), st)
  | 0, N + 1, j, hj, hN => by
    have e : j = n := by omega
    subst e
    simp [g13b11010, h.w]
  | k + 1, N + 1, j, hj, hN => by
    have ih := quiet_loop h hq hn k N (j + 1) (by omega) (by omega)
    have hlt : j < n := by omega
    obtain ⟨q1, q2⟩ := hq.2.2 j hlt
    have hw := works_s (h.d j hlt) h.n0
    have hadd : ∀ K, A.bin .add (.int .i64 (j : Nat)) (.int .i64 1) K = K (.int .i64 ((j + 1 : Nat) : Int)) := fun K => bin_addN j 1 K (by omega)
    simp at ih
    simp [g13b11010, g13b1101001000_9, h.w, h.k, hlt, iaddr_lst, iaddr_sl, hw, q1, q2, hadd, ih]
theorem quiet_s (h : At n g ids wid tn tu tt st S) (hq : Quiet n S) (hn : n ≤ 1000) : s13 [.ptr g 0] st = some (.ret (.bool true), st) := by
  have hl := quiet_loop h hq hn n big 0 (by omega) (by have := big_le; omega)
  rw [s13_eq]
  simp at hl
  simp [f13, h.w, hq.1, hq.2.1, g13b11, hl]

def Nd.init (i : Nat) : Nd := ⟨0, decide (i = 0), false, -1⟩
theorem new_s (hi : i < n) (hn : n ≤ 65) : s21 [.int .i64 (i : Nat), .int .i64 (n : Nat), .bool (decide (i = 0))] st = some (.ret (.tup [.ptr st.n 0, .int .i64 0]), st.new (.cells (nodeC n i (Nd.init i)))) := by
  have h1 : ¬ ((n : Int) < 1) := by omega
  have h2 : ¬ ((65 : Int) < n) := by omega
  have h3 : ¬ ((i : Int) < 0) := by omega
  have h4 : ¬ (n ≤ i) := by omega
  rw [s21_eq]
  simp [f21, g21b100_7, h1, h2, h3, h4, A.build, fillP, putL, box_agg, nodeC, Nd.init]

/-- j of n nodes stand. -/
structure Bd (n j g : Nat) (ids : Nat → Nat) (wid tn : Nat) (st : St) : Prop where
  w : st.ob g = some (.cells [.lst (nodesV j ids) tn, .lst [] 1, .lst [] 1, if j = 0 then .lst [] 1 else .sl wid 0 j 1, .bool true])
  k : 0 < j → st.ob wid = some (.cells (workV j fun _ => 0)) ∧ g ≠ wid ∧ (∀ i, i < j → ids i ≠ wid) ∧ wid < st.n
  d : ∀ i, i < j → st.ob (ids i) = some (.cells (nodeC n i (Nd.init i)))
  gd : ∀ i, i < j → ids i ≠ g
  inj : ∀ i i', i < j → i' < j → ids i = ids i' → i = i'
  kn : Tok st 1 tn
  fn : ∀ k, tn = k + 2 → k < st.nt
  bg : g < st.n
  bd : ∀ i, i < j → ids i < st.n
theorem nodesV_app (j b : Nat) : nodesV j ids ++ [.ptr b 0] = nodesV (j + 1) (upd ids j b) := by
  simp only [nodesV, List.range_succ, List.map_append, List.map_cons, List.map_nil, upd, if_true]
  congr 1
  apply List.map_congr_left
  intro i hi
  have : i < j := by simpa using hi
  simp [Nat.ne_of_lt this]
theorem szok_nodes (j : Nat) : szok 1 (nodesV j ids) = true := szok_of (by intro v hv; simp [nodesV] at hv; obtain ⟨x, _, rfl⟩ := hv; rfl)
theorem workV_app (j : Nat) : workV j (fun _ => 0) ++ [.int .i64 0] = workV (j + 1) fun _ => 0 := by
  simp [workV, List.range_succ]
theorem work_take (j : Nat) (w : Nat → Nat) : (workV j w).take j = workV j w := List.take_of_length_le (by simp)

/-- What stands behind one round. -/
def grown (n j g : Nat) (ids : Nat → Nat) (wid tn : Nat) (st : St) : St :=
  let s1 := (appSt (st.new (.cells (nodeC n j (Nd.init j)))) tn 1).put g (.cells [.lst (nodesV (j + 1) (upd ids j st.n)) (st.nt + 2), .lst [] 1, .lst [] 1, if j = 0 then .lst [] 1 else .sl wid 0 j 1, .bool true])
  (((if j = 0 then s1 else s1.del wid)).new (.cells (workV (j + 1) fun _ => 0))).put g (.cells [.lst (nodesV (j + 1) (upd ids j st.n)) (st.nt + 2), .lst [] 1, .lst [] 1, .sl (st.n + 1) 0 (j + 1) 1, .bool true])

theorem grown_ob (h : Bd n i g ids wid tn st) (b : Nat) (h1 : b ≠ g) (h2 : b < st.n) (h3 : 0 < i → b ≠ wid) : (grown n i g ids wid tn st).ob b = st.ob b := by
  unfold grown
  have e : b ≠ st.n + 1 := by omega
  have e2 : b ≠ st.n := by omega
  by_cases h0 : i = 0
  · simp [h0, put_ob, h1, new_ob, e, e2]
  · simp [h0, put_ob, h1, new_ob, del_ob, e, e2, h3 (by omega)]
theorem grown_bd (h : Bd n i g ids wid tn st) (hi : i < n) : Bd n (i + 1) g (upd ids i st.n) (st.n + 1) (st.nt + 2) (grown n i g ids wid tn st) := by
  have hn : (grown n i g ids wid tn st).n = st.n + 2 := by unfold grown; by_cases h0 : i = 0 <;> simp [h0]
  have hnt : (grown n i g ids wid tn st).nt = st.nt + 1 := by unfold grown; by_cases h0 : i = 0 <;> simp [h0]
  have htk : (grown n i g ids wid tn st).tk = (appSt (st.new (.cells (nodeC n i (Nd.init i)))) tn 1).tk := by unfold grown; by_cases h0 : i = 0 <;> simp [h0]
  have hg := h.bg
  refine ⟨?_, fun _ => ⟨?_, by omega, fun j hj => ?_, by omega⟩, fun j hj => ?_, fun j hj => ?_, fun a b ha hb e => ?_, .inr ⟨st.nt, rfl, ?_⟩, fun k e => by omega, by omega, fun j hj => ?_⟩
  · unfold grown; simp
  · unfold grown
    have e : st.n + 1 ≠ g := by omega
    by_cases h0 : i = 0 <;> simp [h0, put_ob, e, new_ob]
  · unfold upd; split
    · omega
    · have := h.bd j (by omega); omega
  · unfold upd; split
    · rename_i e; subst e
      unfold grown
      have e1 : st.n ≠ g := by omega
      by_cases h0 : j = 0
      · simp [h0, put_ob, e1, new_ob]
      · have := (h.k (by omega)).2.2.2
        have e3 : st.n ≠ wid := by omega
        simp [h0, put_ob, e1, new_ob, del_ob, e3]
    · have hj' : j < i := by omega
      rw [grown_ob h _ (h.gd j hj') (h.bd j hj') (fun hp => (h.k hp).2.2.1 j hj')]
      exact h.d j hj'
  · unfold upd; split
    · omega
    · exact h.gd j (by omega)
  · unfold upd at e
    split at e <;> split at e
    · omega
    · have := h.bd b (by omega); omega
    · have := h.bd a (by omega); omega
    · exact h.inj a b (by omega) (by omega) e
  · rw [htk]; exact appSt_new (st.new (.cells (nodeC n i (Nd.init i)))) tn 1
  · unfold upd; split
    · omega
    · have := h.bd j (by omega); omega
theorem begun_step (h : Bd n i g ids wid tn st) (hi : i < n) (hn : n ≤ 65) (L : V → V → V → V → St → Res) (x0 x1 : V) : g7b1101001001 L x0 x1 (.ptr g 0) (.int .i64 (i : Nat)) (.ptr st.n 0) (.int .i64 0) (st.new (.cells (nodeC n i (Nd.init i)))) =
    L x0 x1 (.ptr g 0) (.int .i64 ((i + 1 : Nat) : Int)) (grown n i g ids wid tn st) := by
  have hg := h.bg
  have e1 : g ≠ st.n := by omega
  have hadd : ∀ K, A.bin .add (.int .i64 (i : Nat)) (.int .i64 1) K = K (.int .i64 ((i + 1 : Nat) : Int)) := fun K => bin_addN i 1 K (by omega)
  have ht : Tok (st.new (.cells (nodeC n i (Nd.init i)))) 1 tn := h.kn
  have ha := fun K => app_tok K ht (l := nodesV i ids) (new := [.ptr st.n 0]) (by simp; omega) (szok_nodes _)
  have hw := h.w
  by_cases h0 : i = 0
  · subst h0
    have e3 : g ≠ st.n + 1 := by omega
    have ha0 : ∀ K, A.bin .add (.int .i64 0) (.int .i64 1) K = K (.int .i64 1) := fun K => bin_addN 0 1 K (by omega)
    simp [g7b1101001001, g7b110100100101, g7b11010010011, g7b110100100111, new_ob, e1, hw, A.bslice, setP, elemsOf, szok, V.er, ha, nodesV_app, hadd, A.appM, grown, flat, workV, e3, ha0]
  · have hk := (h.k (by omega))
    have e2 : wid ≠ st.n := by have := hk.2.2.2; omega
    have e3 : g ≠ st.n + 1 := by omega
    have e4 : i ≤ 1073741823 := by omega
    have e5 : 0 < i := by omega
    have hf : flat [V.int .i64 0] = [.int .i64 0] := rfl
    simp [g7b1101001001, g7b110100100101, g7b11010010011, g7b110100100111, new_ob, e1, hw, A.bslice, setP, elemsOf, szok, V.er, ha, nodesV_app, hadd, A.appM, grown, h0, put_ob, hk.1, hk.2.1, Ne.symm hk.2.1, e2, e3, e4, e5, hf, work_take, workV_app, del_ob]
theorem begun_loop (hn : n ≤ 65) (m : Nat) : ∀ (k N j : Nat) (ids : Nat → Nat) (wid tn : Nat) (st : St), 0 < n → j + k = n → k < N → Bd n j g ids wid tn st →
    ∃ st' ids' wid' tn', g7b11010 N (.int .i64 (n : Nat)) (.int .i64 (m : Nat)) (.ptr g 0) (.int .i64 (j : Nat)) st = some (.ret (.ptr g 0), st') ∧ At n g ids' wid' tn' 1 1 st' ⟨Nd.init, [], [], upd (fun _ => 0) 0 m, true⟩
  | 0, N + 1, j, ids, wid, tn, st, h0, hj, hN, h => by
    have e : j = n := by omega
    subst e
    obtain ⟨hk, k2, k3, k4⟩ := h.k h0
    refine ⟨st.put wid (.cells (workV j (upd (fun _ => 0) 0 m))), ids, wid, tn, ?_, ?_⟩
    · have hz : ((0 : Nat) : Int) = 0 := rfl
      have hw := workV_set (n := j) (v := 0) (fun _ => 0) m
      have hi := fun K => iaddr_sl (id := wid) (off := 0) (sz := 1) K h0
      simp at hi
      have hne : j ≠ 0 := by omega
      simp [g7b11010, h.w, hne, hi, hk, hw, h0]
    · refine ⟨h0, ?_, by simp, fun a ha => ?_, k2, h.gd, k3, h.inj, .inl rfl, .inl rfl, fun k e => by omega, fun k e => by omega, fun k e => by omega, h.bg, k4, h.bd⟩
      · rw [put_ne _ _ k2, h.w, if_neg (by omega)]; rfl
      · rw [put_ne _ _ (k3 a ha)]; exact h.d a ha
  | k + 1, N + 1, j, ids, wid, tn, st, h0, hj, hN, h => by
    obtain ⟨st', ids', wid', tn', r1, r2⟩ := begun_loop hn m k N (j + 1) _ _ _ _ h0 (by omega) (by omega) (grown_bd h (by omega))
    refine ⟨st', ids', wid', tn', ?_, r2⟩
    have hlt : j < n := by omega
    have hz : ((j : Int) == 0) = decide (j = 0) := by by_cases e : j = 0 <;> simp [e]
    have hs := new_s (st := st) hlt hn
    have hb := begun_step h hlt hn (g7b11010 N) (.int .i64 (n : Nat)) (.int .i64 (m : Nat))
    simp at r1 hb
    simp [g7b11010, hlt, hz, hs, hb, r1]
theorem begun_s (hn : n ≤ 65) (h0 : 0 < n) (m : Nat) (hb : 0 < st.n ∨ True) : ∃ st' ids' wid' tn', s7 [.int .i64 (n : Nat), .int .i64 (m : Nat)] st = some (.ret (.ptr st.n 0), st') ∧ At n st.n ids' wid' tn' 1 1 st' ⟨Nd.init, [], [], upd (fun _ => 0) 0 m, true⟩ := by
  have b : Bd n 0 st.n (fun _ => 0) 0 1 (st.new (.cells [.lst [] 1, .lst [] 1, .lst [] 1, .lst [] 1, .bool true])) :=
    ⟨by simp [nodesV], fun h => by omega, fun a h => by omega, fun a h => by omega, fun a b h => by omega, .inl rfl, fun k e => by omega, by simp, fun a h => by omega⟩
  obtain ⟨st', ids', wid', tn', r1, r2⟩ := begun_loop hn m n big 0 _ _ _ _ h0 (by omega) (by have := big_le; omega) b
  refine ⟨st', ids', wid', tn', ?_, r2⟩
  rw [s7_eq]
  simp at r1
  simp [f7, A.build, fillP, putL, box_agg, r1]
theorem awake_s (st : St) : ∃ st', s14 [] st = some (.ret (.bool true), st') := by
  have n1 := new_s (n := 2) (i := 0) (st := st) (by decide) (by decide)
  have n2 := new_s (n := 2) (i := 1) (st := st.new (.cells (nodeC 2 0 (Nd.init 0)))) (by decide) (by decide)
  have e1 : st.n + 1 ≠ st.n := by omega
  have g0 : ((st.new (.cells (nodeC 2 0 (Nd.init 0)))).new (.cells (nodeC 2 1 (Nd.init 1)))).ob st.n = some (.cells (nodeC 2 0 ⟨0, true, false, -1⟩)) := by simp [new_ob, Nd.init]
  have g1 : ((st.new (.cells (nodeC 2 0 (Nd.init 0)))).new (.cells (nodeC 2 1 (Nd.init 1)))).ob (st.n + 1) = some (.cells (nodeC 2 1 ⟨0, false, false, -1⟩)) := by simp [new_ob, Nd.init]
  generalize ht : (st.new (.cells (nodeC 2 0 (Nd.init 0)))).new (.cells (nodeC 2 1 (Nd.init 1))) = t at g0 g1
  have w0 := works_s g0 (by decide)
  have w1 := works_s g1 (by decide)
  have a1 := send_s g0 (by decide) rfl (by decide)
  generalize ht1 : t.put st.n (.cells (nodeC 2 0 ⟨0 + 1, true, false, -1⟩)) = t1 at a1
  have k1 : t1.ob (st.n + 1) = some (.cells (nodeC 2 1 ⟨0, false, false, -1⟩)) := by rw [← ht1, put_ne _ _ e1]; exact g1
  have k0 : t1.ob st.n = some (.cells (nodeC 2 0 ⟨0 + 1, true, false, -1⟩)) := by rw [← ht1]; simp
  have a2 := take_idle k1 rfl rfl (m := 0) (by decide)
  generalize ht2 : t1.put (st.n + 1) (.cells (nodeC 2 1 ⟨0, true, false, ((0 : Nat) : Int)⟩)) = t2 at a2
  have l1 : t2.ob (st.n + 1) = some (.cells (nodeC 2 1 ⟨0, true, false, ((0 : Nat) : Int)⟩)) := by rw [← ht2]; simp
  have l0 : t2.ob st.n = some (.cells (nodeC 2 0 ⟨0 + 1, true, false, -1⟩)) := by rw [← ht2, put_ne _ _ (Ne.symm e1)]; exact k0
  have a3 := rest_free l1 (by decide) rfl rfl
  generalize ht3 : t2.put (st.n + 1) (.cells (nodeC 2 1 ⟨0, false, decide (1 = 0), -1⟩)) = t3 at a3
  have m0 : t3.ob st.n = some (.cells (nodeC 2 0 ⟨0 + 1, true, false, -1⟩)) := by rw [← ht3, put_ne _ _ (Ne.symm e1)]; exact l0
  have a4 := told_s m0 (by decide) (by decide) (by decide)
  generalize ht4 : t3.put st.n (.cells (nodeC 2 0 ⟨0 + 1 - 1, true, false, -1⟩)) = t4 at a4
  have o0 : t4.ob st.n = some (.cells (nodeC 2 0 ⟨0 + 1 - 1, true, false, -1⟩)) := by rw [← ht4]; simp
  have b1 := owes_s o0 (by decide)
  have b2 := done_s o0 (by decide)
  refine ⟨t4, ?_⟩
  simp at n1 n2 ht a2 a3 b1
  rw [s14_eq]
  simp [f14, g14b111, g14b11100_7, g14b11100_15, g14b11100_24, g14b1111, g14b11111, g14b1111110_7, g14b1111110_15, g14b1111110_25, n1, n2, ht, w0, w1, a1, a2, a3, a4, b1, b2]
end Go.Ab
