import Derived.Test.YtjemnldcpafepaaAbM14
/- sinewlaw14.QuietEnds: the last loop. -/
namespace Go.Ab
open Go.RowKit
set_option linter.unusedVariables false
set_option linter.unusedSimpArgs false
variable {n v k g : Nat} {S : Sw} {st : St}

theorem tellR (h : Wd n g k st S) (hs : StillTo n S) (hn : n ≤ 65) (hk : k ≤ 100000) (x : Int) : ∃ st' S', s10 [.ptr g 0, .int .i64 x] st = some (.ret (.tup []), st') ∧ Wd n g (k + 1) st' S' ∧ StillTo n S' ∧ mass n S' ≤ mass n S ∧ (S.tells ≠ [] → mass n S' < mass n S) ∧ (S.tells = [] → S' = S) := by
  obtain ⟨st', S', e1, e2, e3⟩ := do_tell h hn hk x
  rcases e3 with ⟨e3, e4⟩ | ⟨i, hi, e4⟩
  · subst e4; exact ⟨st', S', e1, e2, hs, Nat.le_refl _, fun q => absurd e3 q, fun _ => rfl⟩
  · obtain ⟨m1, m2⟩ := tell_mass h.2.1 hs hi
    subst e4
    exact ⟨st', _, e1, e2, m2, Nat.le_of_lt m1, fun _ => m1, fun q => by rw [q] at hi; simp at hi⟩
theorem comeR (h : Wd n g k st S) (hs : StillTo n S) (hn : n ≤ 65) (hk : k ≤ 100000) (x : Int) : ∃ st' S', s9 [.ptr g 0, .int .i64 x, .int .i64 0] st = some (.ret (.tup []), st') ∧ Wd n g (k + 1) st' S' ∧ StillTo n S' ∧ mass n S' ≤ mass n S ∧ (S.under ≠ [] → mass n S' < mass n S) := by
  obtain ⟨st', S', e1, e2, e3⟩ := do_come h hn hk x (more := 0) (by omega)
  rcases e3 with ⟨e3, e4⟩ | ⟨i, hi, e4⟩
  · subst e4; exact ⟨st', S', e1, e2, hs, Nat.le_refl _, fun q => absurd e3 q⟩
  · obtain ⟨m1, m2⟩ := come_mass h.2.1 hs hi
    subst e4
    exact ⟨st', _, e1, e2, m2, Nat.le_of_lt m1, fun _ => m1⟩

theorem ends_come (h : Wd n g k st S) (hs : StillTo n S) (hn : n ≤ 65) (hk : k ≤ 100000) (L : V → V → V → St → Res) (x2 : V) (y : Int) {i : Nat} (hi : i < 100000) :
    ∃ st' S', g4b111111010010011 L x2 (.ptr g 0) (.int .i64 (i : Nat)) (.int .i64 y) st = L x2 (.ptr g 0) (.int .i64 ((i + 1 : Nat) : Int)) st' ∧ Wd n g (k + 1) st' S' ∧ StillTo n S' ∧ mass n S' ≤ mass n S ∧ (S.under ≠ [] → i % 2 = 1 ∨ S.tells = [] → mass n S' < mass n S) := by
  have a3 : ∀ K, A.bin .add (.int .i64 (i : Nat)) (.int .i64 1) K = K (.int .i64 ((i + 1 : Nat) : Int)) := fun K => bin_addN i 1 K (by omega)
  have r2 : ∀ K, A.bin .rem (.int .i64 (i : Nat)) (.int .i64 2) K = K (.int .i64 ((i % 2 : Nat) : Int)) := fun K => bin_remN i 2 K (by omega)
  obtain ⟨st', S', e1, e2, e3, e4, e5⟩ := comeR h hs hn hk y
  obtain ⟨⟨ids, wid, tn, tu, tt, ha⟩, hi', hb⟩ := h
  have hm : i % 2 < 2 := Nat.mod_lt _ (by decide)
  generalize i % 2 = q at r2 hm
  by_cases q1 : q = 1
  · refine ⟨st', S', ?_, e2, e3, e4, fun u _ => e5 u⟩
    simp [g4b111111010010011, r2, q1, e1, a3]
  · have q0 : q = 0 := by omega
    by_cases ht : S.tells = []
    · refine ⟨st', S', ?_, e2, e3, e4, fun u _ => e5 u⟩
      simp [g4b111111010010011, r2, q0, ha.w, ht, e1, a3]
    · have hz : ((S.tells.length : Int) == 0) = false := by simp; exact ht
      refine ⟨st, S, ?_, ⟨⟨ids, wid, tn, tu, tt, ha⟩, hi', hb.mono (by omega)⟩, hs, Nat.le_refl _, fun _ q => by rcases q with q | q; omega; exact absurd q ht⟩
      simp [g4b111111010010011, r2, q0, ha.w, hz, a3]
theorem ends_round (h : Wd n g k st S) (hs : StillTo n S) (hn : n ≤ 65) (hk : k ≤ 90000) (hne : S.under ≠ [] ∨ S.tells ≠ []) (L : V → V → V → St → Res) (x2 : V) (y : Int) {i : Nat} (hi : i < 100000) :
    ∃ st' S', g4b11111101001001 L x2 (.ptr g 0) (.int .i64 (i : Nat)) (.int .i64 y) st = L x2 (.ptr g 0) (.int .i64 ((i + 1 : Nat) : Int)) st' ∧ Wd n g (k + 2) st' S' ∧ StillTo n S' ∧ mass n S' < mass n S := by
  have r2 : ∀ K, A.bin .rem (.int .i64 (i : Nat)) (.int .i64 2) K = K (.int .i64 ((i % 2 : Nat) : Int)) := fun K => bin_remN i 2 K (by omega)
  have hm : i % 2 < 2 := Nat.mod_lt _ (by decide)
  by_cases q0 : i % 2 = 0 ∨ S.under = []
  · -- the telling is tried
    obtain ⟨st1, S1, a1, a2, a3, a4, a5, a6⟩ := tellR h hs hn (by omega) y
    obtain ⟨st2, S2, b1, b2, b3, b4, b5⟩ := ends_come a2 a3 hn (by omega) L x2 y hi
    refine ⟨st2, S2, ?_, b2, b3, ?_⟩
    · obtain ⟨⟨ids, wid, tn, tu, tt, ha⟩, hi', hb⟩ := h
      by_cases e0 : i % 2 = 0
      · rw [e0] at r2
        simp at r2 b1
        simp [g4b11111101001001, r2, a1, b1]
      · have hu : S.under = [] := by rcases q0 with q | q; exact absurd q e0; exact q
        have e1 : i % 2 = 1 := by omega
        rw [e1] at r2
        simp at r2 b1
        simp [g4b11111101001001, r2, ha.w, hu, a1, b1]
    · by_cases ht : S.tells = []
      · have e := a6 ht
        subst e
        rcases hne with u | u
        · exact b5 u (.inr ht)
        · exact absurd ht u
      · have := a5 ht; omega
  · have e1 : i % 2 = 1 := by omega
    have hu : S.under ≠ [] := fun q => q0 (.inr q)
    obtain ⟨st2, S2, b1, b2, b3, b4, b5⟩ := ends_come h hs hn (by omega) L x2 y hi
    refine ⟨st2, S2, ?_, ⟨b2.1, b2.2.1, b2.2.2.mono (by omega)⟩, b3, b5 hu (.inl e1)⟩
    obtain ⟨⟨ids, wid, tn, tu, tt, ha⟩, hi', hb⟩ := h
    have hz : ((S.under.length : Int) == 0) = false := by simp; exact hu
    rw [e1] at r2
    simp at r2 b1
    simp [g4b11111101001001, r2, ha.w, hz, b1]

theorem ends_fin (h : Wd n g k st S) (hn : n ≤ 65) (hd : (S.nd 0).done = true) : ∃ st', g4b1111111 (.ptr g 0) st = some (.ret (.bool true), st') := by
  obtain ⟨⟨ids, wid, tn, tu, tt, ha⟩, hi, hb⟩ := h
  have h0 := ha.n0
  have ia : ∀ K, A.iaddr 1 (.lst (nodesV n ids) tn) (.int .i64 0) K = K (.lptr [.ptr (ids 0) 0]) := fun K => iaddr_lst (n := 0) K (nodesV_get h0) rfl
  have hdn := done_s (ha.d 0 h0) h0
  have hq := quiet_s ha (hi.quiet (hi.done1 0 h0 hd).2) (by omega)
  obtain ⟨st', hw⟩ := awake_s st
  refine ⟨st', ?_⟩
  simp [g4b1111111, g4b11111110_14, ha.w, hi.ok, ia, hdn, hd, hq, hw]
theorem ends_last (h0 : 0 < n) (hn : n ≤ 65) (x2 : Int) : ∀ (m N i k : Nat) (st : St) (S : Sw), mass n S ≤ m → m + i < 3000 → m < N → k ≤ 1000 + 2 * i → Wd n g k st S → StillTo n S →
    ∃ st', g4b111111010 N (.int .i64 x2) (.ptr g 0) (.int .i64 (i : Nat)) st = some (.ret (.bool true), st') := by
  intro m
  induction m with
  | zero =>
    intro N i k st S hm hi hN hk h hs
    obtain ⟨N, rfl⟩ : ∃ N', N = N' + 1 := ⟨N - 1, by omega⟩
    have hi2 : (i : Int) < 3000 := by omega
    cases hd : (S.nd 0).done with
    | true =>
      obtain ⟨st', hf⟩ := ends_fin h hn hd
      refine ⟨st', ?_⟩
      obtain ⟨⟨ids, wid, tn, tu, tt, ha⟩, hi', hb⟩ := h
      have ia : ∀ K, A.iaddr 1 (.lst (nodesV n ids) tn) (.int .i64 0) K = K (.lptr [.ptr (ids 0) 0]) := fun K => iaddr_lst (n := 0) K (nodesV_get h0) rfl
      have hdn := done_s (ha.d 0 h0) h0
      simp [g4b111111010, g4b111111010000_9, hi2, ha.w, hi'.ok, ia, hdn, hd, hf]
    | false =>
      have hw : (S.nd 0).works = true := by cases q : (S.nd 0).works with | true => rfl | false => rw [h.2.1.done2 q] at hd; cases hd
      exfalso
      unfold mass at hm
      rcases h.2.1.busy hs hw with u | u
      · exact u (List.eq_nil_of_length_eq_zero (by omega))
      · exact u (List.eq_nil_of_length_eq_zero (by omega))
  | succ m ih =>
    intro N i k st S hm hi hN hk h hs
    obtain ⟨N, rfl⟩ : ∃ N', N = N' + 1 := ⟨N - 1, by omega⟩
    have hi2 : (i : Int) < 3000 := by omega
    cases hd : (S.nd 0).done with
    | true =>
      obtain ⟨st', hf⟩ := ends_fin h hn hd
      refine ⟨st', ?_⟩
      obtain ⟨⟨ids, wid, tn, tu, tt, ha⟩, hi', hb⟩ := h
      have ia : ∀ K, A.iaddr 1 (.lst (nodesV n ids) tn) (.int .i64 0) K = K (.lptr [.ptr (ids 0) 0]) := fun K => iaddr_lst (n := 0) K (nodesV_get h0) rfl
      have hdn := done_s (ha.d 0 h0) h0
      simp [g4b111111010, g4b111111010000_9, hi2, ha.w, hi'.ok, ia, hdn, hd, hf]
    | false =>
      have hw : (S.nd 0).works = true := by cases q : (S.nd 0).works with | true => rfl | false => rw [h.2.1.done2 q] at hd; cases hd
      have hl := low_lt 32 (i : Nat) (by decide)
      have hsh : ∀ K, A.bin .shr (.int .i64 x2) (.int .i64 (low 32 (i : Nat) : Nat)) K = K (.int .i64 (x2 / (2 ^ low 32 (i : Nat) : Nat))) := fun K => bin_shr K (by show low 32 (i : Nat) ≤ 64; omega)
      generalize x2 / (2 ^ low 32 (i : Nat) : Nat) = y at hsh
      obtain ⟨st1, S1, r1, r2, r3, r4⟩ := ends_round h hs hn (by omega) (h.2.1.busy hs hw) (g4b111111010 N) (.int .i64 x2) y (i := i) (by omega)
      obtain ⟨st', e⟩ := ih N (i + 1) (k + 2) st1 S1 (by omega) (by omega) (by omega) (by omega) r2 r3
      refine ⟨st', ?_⟩
      obtain ⟨⟨ids, wid, tn, tu, tt, ha⟩, hi', hb⟩ := h
      have ia : ∀ K, A.iaddr 1 (.lst (nodesV n ids) tn) (.int .i64 0) K = K (.lptr [.ptr (ids 0) 0]) := fun K => iaddr_lst (n := 0) K (nodesV_get h0) rfl
      have hdn := done_s (ha.d 0 h0) h0
      rw [e] at r1
      simp [g4b111111010, g4b111111010000_9, g4b11111101001, hi2, ha.w, hi'.ok, ia, hdn, hd, hsh, r1]
theorem ends_law (x : Int) (xs : List Int) (t : Nat) (x2 : Int) (st : St) : ∃ st', s4 [.int .i64 x, .lst (intsV xs) t, .int .i64 x2] st = some (.ret (.bool true), st') := by
  have hr : ∀ K, A.bin .rem (.int .i64 (low 65536 x : Nat)) (.int .i64 6) K = K (.int .i64 ((low 65536 x % 6 : Nat) : Int)) := fun K => bin_remN _ 6 K (by decide)
  have hl : low 65536 x % 6 < 6 := Nat.mod_lt _ (by decide)
  generalize low 65536 x % 6 = b at hr hl
  have ha : ∀ K, A.bin .add (.int .i64 1) (.int .i64 (b : Nat)) K = K (.int .i64 ((1 + b : Nat) : Int)) := fun K => bin_addN 1 b K (by omega)
  obtain ⟨st1, ids, wid, tn, r1, r2⟩ := begun_s (n := 1 + b) (st := st) (by omega) (by omega) 3 (.inr trivial)
  have hw : Wd (1 + b) st.n 0 st1 ⟨Nd.init, [], [], upd (fun _ => 0) 0 3, true⟩ := ⟨⟨_, _, _, _, _, r2⟩, Inv.init (by omega) 3, ⟨by simp, by simp, fun i => by simp only [upd]; split <;> omega⟩⟩
  have hbig := big_le
  obtain ⟨st2, S2, k2, p1, p2, p3⟩ := ends_first (by omega) (by omega) xs t (.int .i64 x2) 200 big 0 0 st1 _ (by omega) (by omega) (by omega) hw
  obtain ⟨st3, S3, k3, u1, u2, u3, u4⟩ := ends_zero (by omega) (by omega) (.int .i64 x2) (1 + b) big 0 k2 st2 S2 (by omega) (by omega) (by omega) p2 (fun i hi => by omega)
  have hmass : mass (1 + b) S3 ≤ 2000 := by
    have := u2.2.2.u; have := u2.2.2.t
    have hc := List.countP_le_length (l := List.range (1 + b)) (p := wk S3)
    simp at hc
    unfold mass; omega
  obtain ⟨st', e⟩ := ends_last (by omega) (by omega) x2 2000 big 0 k3 st3 S3 hmass (by omega) (by omega) (by omega) u2 u3
  refine ⟨st', ?_⟩
  obtain ⟨⟨ids2, wid2, tn2, tu2, tt2, ha2⟩, hi2, hb2⟩ := p2
  rw [s4_eq]
  simp at ha r1 p3 u4 e
  simp [f4, hr, ha, r1, p3, g4b1111, ha2.w, hi2.ok, u4, g4b111111, e]
end Go.Ab
