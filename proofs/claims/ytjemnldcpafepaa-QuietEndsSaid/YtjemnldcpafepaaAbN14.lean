import Derived.Test.YtjemnldcpafepaaAbO14
/- sinewlaw14.QuietEnds. -/
namespace Go.Ab
open Go.RowKit
set_option linter.unusedVariables false
set_option linter.unusedSimpArgs false
variable {n v k g : Nat} {S : Sw} {st : St}
theorem ends_step (h : Wd n g k st S) (h0 : 0 < n) (hn : n ≤ 65) (hk : k ≤ 9000) (L : V → V → V → V → V → St → Res) (x2 : V) (xs : List Int) (t : Nat) {i : Nat} (hi : i < xs.length) (hi2 : i < 100000) :
    ∃ st' S', g4b11101001 L (.lst (intsV xs) t) x2 (.int .i64 (n : Nat)) (.ptr g 0) (.int .i64 (i : Nat)) st = L (.lst (intsV xs) t) x2 (.int .i64 (n : Nat)) (.ptr g 0) (.int .i64 ((i + 1 : Nat) : Int)) st' ∧ Wd n g (k + 1) st' S' := by
  have a3 : ∀ K, A.bin .add (.int .i64 (i : Nat)) (.int .i64 1) K = K (.int .i64 ((i + 1 : Nat) : Int)) := fun K => bin_addN i 1 K (by omega)
  have hx : ∀ K, A.iaddr 1 (.lst (intsV xs) t) (.int .i64 (i : Nat)) K = K (.lptr [.int .i64 xs[i]]) := fun K => iaddr_lst (v := .int .i64 xs[i]) K (by simp [intsV, hi]) rfl
  generalize hb : low 65536 xs[i] = b
  have s2 : ∀ K, A.bin .shr (.int .i64 (b : Nat)) (.int .u64 2) K = K (.int .i64 ((b / 4 : Nat) : Int)) := fun K => bin_shrL b 2 .u64 K (by omega)
  have s5 : ∀ K, A.bin .shr (.int .i64 (b : Nat)) (.int .u64 5) K = K (.int .i64 ((b / 32 : Nat) : Int)) := fun K => bin_shrL b 5 .u64 K (by omega)
  have s10 : ∀ K, A.bin .shr (.int .i64 (b : Nat)) (.int .u64 10) K = K (.int .i64 ((b / 1024 : Nat) : Int)) := fun K => bin_shrL b 10 .u64 K (by omega)
  have r2 : ∀ K, A.bin .rem (.int .i64 ((b / 4 : Nat) : Int)) (.int .i64 (n : Nat)) K = K (.int .i64 ((b / 4 % n : Nat) : Int)) := fun K => bin_remN _ _ K h0
  have r5 : ∀ K, A.bin .rem (.int .i64 ((b / 32 : Nat) : Int)) (.int .i64 (n : Nat)) K = K (.int .i64 ((b / 32 % n : Nat) : Int)) := fun K => bin_remN _ _ K h0
  generalize hq : low 4 (b : Nat) = q
  generalize b / 4 = b4 at s2 r2
  generalize b / 32 = b32 at s5 r5
  generalize hb10 : b / 1024 = b10 at s10
  have l4 : b4 % n < n := Nat.mod_lt _ h0
  have l32 : b32 % n < n := Nat.mod_lt _ h0
  generalize b4 % n = v4 at r2 l4
  generalize b32 % n = v32 at r5 l32
  by_cases q0 : q = 0
  · obtain ⟨st', S', e1, e2⟩ := do_send h hn (by omega) l4 l32
    refine ⟨st', S', ?_, e2⟩
    simp [g4b11101001, hx, hb, hq, q0, s2, s5, r2, r5, e1, a3]
  · by_cases q1 : q = 1
    · have hm : low 4 (b10 : Nat) ≤ 3 := by have := low_lt 4 (b10 : Nat) (by decide); omega
      obtain ⟨st', S', e1, e2, _⟩ := do_come h hn (by omega) (b4 : Nat) hm
      refine ⟨st', S', ?_, e2⟩
      simp [g4b11101001, g4b1110100100110111, hx, hb, hq, q1, s2, s10, e1, a3]
    · have z0 : ((q : Int) == 0) = false := by simp; omega
      have z1 : ((q : Int) == 1) = false := by simp; omega
      by_cases q2 : q = 2
      · obtain ⟨st', S', e1, e2, _⟩ := do_tell h hn (by omega) (b4 : Nat)
        refine ⟨st', S', ?_, e2⟩
        simp [g4b11101001, g4b1110100100110111, hx, hb, hq, q2, s2, e1, a3]
      · have z2 : ((q : Int) == 2) = false := by simp; omega
        refine ⟨st, S, ?_, h.1, h.2.1, h.2.2.mono (by omega)⟩
        simp [g4b11101001, g4b1110100100110111, hx, hb, hq, z0, z1, z2, s2, a3]

theorem ends_first (h0 : 0 < n) (hn : n ≤ 65) (xs : List Int) (t : Nat) (x2 : V) : ∀ (c N i k : Nat) (st : St) (S : Sw), i + c = 200 → c < N → k ≤ i → Wd n g k st S →
    ∃ st' S' k', k' ≤ 200 ∧ Wd n g k' st' S' ∧ g4b111010 N (.lst (intsV xs) t) x2 (.int .i64 (n : Nat)) (.ptr g 0) (.int .i64 (i : Nat)) st = g4b1111 x2 (.int .i64 (n : Nat)) (.ptr g 0) st'
  | 0, N + 1, i, k, st, S, hi, hN, hk, h => by
    have e : i = 200 := by omega
    subst e
    refine ⟨st, S, k, by omega, h, ?_⟩
    by_cases hl : (200 : Int) < xs.length
    · simp [g4b111010, hl]
    · simp [g4b111010, hl]
  | c + 1, N + 1, i, k, st, S, hi, hN, hk, h => by
    by_cases hl : i < xs.length
    · obtain ⟨st', S', e1, e2⟩ := ends_step h h0 hn (by omega) (g4b111010 N) x2 xs t hl (by omega)
      obtain ⟨st2, S2, k2, q1, q2, e3⟩ := ends_first h0 hn xs t x2 c N (i + 1) (k + 1) st' S' (by omega) (by omega) (by omega) e2
      refine ⟨st2, S2, k2, q1, q2, ?_⟩
      have h2 : (i : Int) < 200 := by omega
      obtain ⟨⟨ids, wid, tn, tu, tt, ha⟩, hi', hb⟩ := h
      rw [e3] at e1
      simp [g4b111010, hl, h2, ha.w, hi'.ok, e1]
    · refine ⟨st, S, k, by omega, h, ?_⟩
      simp [g4b111010, hl]

/-- No work is left, and who works owes. -/
def StillTo (m : Nat) (S : Sw) : Prop := ∀ i, i < m → S.work i = 0 ∧ ((S.nd i).works = true → 0 < (S.nd i).debt)
theorem rest_nd (S : Sw) (v j : Nat) (h : j ≠ v) : (rest S v).nd j = S.nd j := by
  unfold rest; split; rfl; split; rfl; simp [upd, h]
theorem rest_still (S : Sw) (v : Nat) (h : S.work v = 0) : ((rest S v).nd v).works = true → 0 < ((rest S v).nd v).debt := by
  unfold rest
  split
  · rename_i h1; intro q; simp [h, q] at h1
  · split
    · intro _; assumption
    · intro q; simp [upd] at q
theorem ends_zero (h0 : 0 < n) (hn : n ≤ 65) (x2 : V) : ∀ (c N j k : Nat) (st : St) (S : Sw), j + c = n → c < N → k ≤ 200 + j → Wd n g k st S → StillTo j S →
    ∃ st' S' k', k' ≤ 300 ∧ Wd n g k' st' S' ∧ StillTo n S' ∧ g4b11111010 N x2 (.int .i64 (n : Nat)) (.ptr g 0) (.int .i64 (j : Nat)) st = g4b111111 x2 (.ptr g 0) st'
  | 0, N + 1, j, k, st, S, hj, hN, hk, h, hs => by
    have e : j = n := by omega
    subst e
    exact ⟨st, S, k, by omega, h, hs, by simp [g4b11111010]⟩
  | c + 1, N + 1, j, k, st, S, hj, hN, hk, h, hs => by
    have hlt : j < n := by omega
    obtain ⟨⟨ids, wid, tn, tu, tt, ha⟩, hi, hb⟩ := h
    have a1 := ha.setWork j 0
    have i1 : Inv n { S with work := upd S.work j 0 } := ⟨hi.n0, hi.debt, hi.under, hi.tells, fun i hi' q => ⟨(hi.idle i hi' q).1, by simp only [upd]; split; rfl; exact (hi.idle i hi' q).2⟩, hi.done1, hi.done2, hi.par, hi.root, hi.rank, hi.ok⟩
    have b1 : Bnd k { S with work := upd S.work j 0 } := ⟨hb.u, hb.t, fun i => by simp only [upd]; split; omega; exact hb.w i⟩
    obtain ⟨st', e1, e2⟩ := do_rest (v := j) ⟨⟨_, _, _, _, _, a1⟩, i1, b1⟩ (by omega) hlt
    obtain ⟨st2, S2, k2, q1, q2, q3, e3⟩ := ends_zero h0 hn x2 c N (j + 1) (k + 1) st' _ (by omega) (by omega) (by omega) e2 (by
      intro i hi'
      by_cases e : i = j
      · subst e; exact ⟨by rw [rest_work]; simp [upd], rest_still _ _ (by simp [upd])⟩
      · have := hs i (by omega)
        rw [rest_work, rest_nd _ _ _ e]
        exact ⟨by simp only [upd, if_neg e]; exact this.1, this.2⟩)
    refine ⟨st2, S2, k2, q1, q2, q3, ?_⟩
    have hws := workV_set (n := n) (v := j) S.work 0
    have a3 : ∀ K, A.bin .add (.int .i64 (j : Nat)) (.int .i64 1) K = K (.int .i64 ((j + 1 : Nat) : Int)) := fun K => bin_addN j 1 K (by omega)
    simp at hws e3 a3
    simp [g4b11111010, hlt, ha.w, ha.k, iaddr_sl, hws, e1, a3, e3]
end Go.Ab
