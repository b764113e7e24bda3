import Derived.Test.YtjemnldcpafepaaAbZ14
/- sinewlaw14.QuietDone. -/
namespace Go.Ab
open Go.RowKit
set_option linter.unusedVariables false
set_option linter.unusedSimpArgs false
variable {n v k g : Nat} {S : Sw} {st : St}
theorem done_fin {S' : Sw} (hw : Wd n g k st S') (hn : n ≤ 65) {i : Nat} (hi : i < 100000) (L : V → V → V → V → St → Res) (x1 : V) :
    g3b111010010011 L x1 (.int .i64 (n : Nat)) (.ptr g 0) (.int .i64 (i : Nat)) st = L x1 (.int .i64 (n : Nat)) (.ptr g 0) (.int .i64 ((i + 1 : Nat) : Int)) st := by
  obtain ⟨⟨ids, wid, tn, tu, tt, ha⟩, hi', hb⟩ := hw
  have h0 := ha.n0
  have ia : ∀ K, A.iaddr 1 (.lst (nodesV n ids) tn) (.int .i64 0) K = K (.lptr [.ptr (ids 0) 0]) := fun K => iaddr_lst (n := 0) K (nodesV_get h0) rfl
  have hd := done_s (ha.d 0 h0) h0
  have a3 : ∀ K, A.bin .add (.int .i64 (i : Nat)) (.int .i64 1) K = K (.int .i64 ((i + 1 : Nat) : Int)) := fun K => bin_addN i 1 K (by omega)
  cases hdn : (S'.nd 0).done with
  | false => simp [g3b111010010011, g3b1110100100110_14, ha.w, hi'.ok, ia, hd, hdn, a3]
  | true =>
    have hq := quiet_s ha (hi'.quiet (hi'.done1 0 h0 hdn).2) (by omega)
    simp [g3b111010010011, g3b1110100100110_14, ha.w, hi'.ok, ia, hd, hdn, a3, hq]

theorem done_step (h : Wd n g k st S) (h0 : 0 < n) (hn : n ≤ 65) (hk : k ≤ 9000) (L : V → V → V → V → St → Res) (xs : List Int) (t : Nat) {i : Nat} (hi : i < xs.length) (hi2 : i < 100000) :
    ∃ st' S', g3b11101001 L (.lst (intsV xs) t) (.int .i64 (n : Nat)) (.ptr g 0) (.int .i64 (i : Nat)) st = L (.lst (intsV xs) t) (.int .i64 (n : Nat)) (.ptr g 0) (.int .i64 ((i + 1 : Nat) : Int)) st' ∧ Wd n g (k + 1) st' S' := by
  have fin : ∀ st' S', Wd n g (k + 1) st' S' → g3b111010010011 L (.lst (intsV xs) t) (.int .i64 (n : Nat)) (.ptr g 0) (.int .i64 (i : Nat)) st' = L (.lst (intsV xs) t) (.int .i64 (n : Nat)) (.ptr g 0) (.int .i64 ((i + 1 : Nat) : Int)) st' := by
    intro st' S' hw
    exact done_fin hw hn hi2 L _
  have hx : ∀ K, A.iaddr 1 (.lst (intsV xs) t) (.int .i64 (i : Nat)) K = K (.lptr [.int .i64 xs[i]]) := fun K => iaddr_lst (v := .int .i64 xs[i]) K (by simp [intsV, hi]) rfl
  generalize hb : low 65536 xs[i] = b
  have s2 : ∀ K, A.bin .shr (.int .i64 (b : Nat)) (.int .u64 2) K = K (.int .i64 ((b / 4 : Nat) : Int)) := fun K => bin_shrL b 2 .u64 K (by omega)
  have s5 : ∀ K, A.bin .shr (.int .i64 (b : Nat)) (.int .u64 5) K = K (.int .i64 ((b / 32 : Nat) : Int)) := fun K => bin_shrL b 5 .u64 K (by omega)
  have s10 : ∀ K, A.bin .shr (.int .i64 (b : Nat)) (.int .u64 10) K = K (.int .i64 ((b / 1024 : Nat) : Int)) := fun K => bin_shrL b 10 .u64 K (by omega)
  have r2 : ∀ K, A.bin .rem (.int .i64 ((b / 4 : Nat) : Int)) (.int .i64 (n : Nat)) K = K (.int .i64 ((b / 4 % n : Nat) : Int)) := fun K => bin_remN _ _ K h0
  have r5 : ∀ K, A.bin .rem (.int .i64 ((b / 32 : Nat) : Int)) (.int .i64 (n : Nat)) K = K (.int .i64 ((b / 32 % n : Nat) : Int)) := fun K => bin_remN _ _ K h0
  generalize hq : low 4 (b : Nat) = q
  generalize b / 4 = b4 at s2 r2
  generalize b / 32 = b32 at s5 r5
  generalize hb10 : b / 1024 = b10 at s10
  have l4 : b4 % n < n := Nat.mod_lt _ h0
  have l32 : b32 % n < n := Nat.mod_lt _ h0
  generalize b4 % n = v4 at r2 l4
  generalize b32 % n = v32 at r5 l32
  by_cases q0 : q = 0
  · obtain ⟨st', S', e1, e2⟩ := do_send h hn (by omega) l4 l32
    refine ⟨st', S', ?_, e2⟩
    simp [g3b11101001, hx, hb, hq, q0, s2, s5, r2, r5, e1, fin st' S' e2]
  · by_cases q1 : q = 1
    · have hm : low 4 (b10 : Nat) ≤ 3 := by have := low_lt 4 (b10 : Nat) (by decide); omega
      obtain ⟨st', S', e1, e2, _⟩ := do_come h hn (by omega) (b4 : Nat) hm
      refine ⟨st', S', ?_, e2⟩
      simp [g3b11101001, g3b11101001001010111, hx, hb, hq, q1, s2, s10, e1, fin st' S' e2]
    · have z0 : ((q : Int) == 0) = false := by simp; omega
      have z1 : ((q : Int) == 1) = false := by simp; omega
      by_cases q2 : q = 2
      · obtain ⟨st', S', e1, e2, _⟩ := do_tell h hn (by omega) (b4 : Nat)
        refine ⟨st', S', ?_, e2⟩
        simp [g3b11101001, g3b11101001001010111, hx, hb, hq, q2, s2, e1, fin st' S' e2]
      · have z2 : ((q : Int) == 2) = false := by simp; omega
        obtain ⟨st', e1, e2⟩ := do_rest h (by omega) l4
        refine ⟨st', _, ?_, e2⟩
        simp [g3b11101001, g3b11101001001010111, hx, hb, hq, z0, z1, z2, s2, r2, e1, fin st' _ e2]

theorem done_outer (h0 : 0 < n) (hn : n ≤ 65) (xs : List Int) (t : Nat) : ∀ (c N i k : Nat) (st : St) (S : Sw), i + c = 300 → c < N → k ≤ i → Wd n g k st S →
    ∃ st', g3b111010 N (.lst (intsV xs) t) (.int .i64 (n : Nat)) (.ptr g 0) (.int .i64 (i : Nat)) st = some (.ret (.bool true), st')
  | 0, N + 1, i, k, st, S, hi, hN, hk, h => by
    have e : i = 300 := by omega
    subst e
    obtain ⟨⟨ids, wid, tn, tu, tt, ha⟩, hi', hb⟩ := h
    obtain ⟨st', hw⟩ := awake_s st
    refine ⟨st', ?_⟩
    have ok := hi'.ok
    by_cases hl : (300 : Int) < xs.length
    · simp [g3b111010, hl, ha.w, ok, hw]
    · simp [g3b111010, hl, ha.w, ok, hw]
  | c + 1, N + 1, i, k, st, S, hi, hN, hk, h => by
    by_cases hl : i < xs.length
    · obtain ⟨st', S', e1, e2⟩ := done_step h h0 hn (by omega) (g3b111010 N) xs t hl (by omega)
      obtain ⟨st2, e3⟩ := done_outer h0 hn xs t c N (i + 1) (k + 1) st' S' (by omega) (by omega) (by omega) e2
      refine ⟨st2, ?_⟩
      have h2 : (i : Int) < 300 := by omega
      obtain ⟨⟨ids, wid, tn, tu, tt, ha⟩, hi', hb⟩ := h
      rw [e3] at e1
      simp [g3b111010, hl, h2, ha.w, hi'.ok, e1]
    · obtain ⟨⟨ids, wid, tn, tu, tt, ha⟩, hi', hb⟩ := h
      obtain ⟨st', hw⟩ := awake_s st
      refine ⟨st', ?_⟩
      simp [g3b111010, hl, ha.w, hi'.ok, hw]
theorem done_law (x : Int) (xs : List Int) (t : Nat) (st : St) : ∃ st', s3 [.int .i64 x, .lst (intsV xs) t] st = some (.ret (.bool true), st') := by
  have hr : ∀ K, A.bin .rem (.int .i64 (low 65536 x : Nat)) (.int .i64 6) K = K (.int .i64 ((low 65536 x % 6 : Nat) : Int)) := fun K => bin_remN _ 6 K (by decide)
  have hl : low 65536 x % 6 < 6 := Nat.mod_lt _ (by decide)
  generalize low 65536 x % 6 = b at hr hl
  have ha : ∀ K, A.bin .add (.int .i64 1) (.int .i64 (b : Nat)) K = K (.int .i64 ((1 + b : Nat) : Int)) := fun K => bin_addN 1 b K (by omega)
  obtain ⟨st1, ids, wid, tn, r1, r2⟩ := begun_s (n := 1 + b) (st := st) (by omega) (by omega) 3 (.inr trivial)
  have hw : Wd (1 + b) st.n 0 st1 ⟨Nd.init, [], [], upd (fun _ => 0) 0 3, true⟩ := ⟨⟨_, _, _, _, _, r2⟩, Inv.init (by omega) 3, ⟨by simp, by simp, fun i => by simp only [upd]; split <;> omega⟩⟩
  obtain ⟨st', r3⟩ := done_outer (by omega) (by omega) xs t 300 big 0 0 st1 _ (by omega) (by have := big_le; omega) (by omega) hw
  refine ⟨st', ?_⟩
  rw [s3_eq]
  simp at ha r1 r3
  simp [f3, hr, ha, r1, r3]
end Go.Ab
