import Derived.Test.YtjemnldcpafepaaAbY14
/- sinewlaw14: each step keeps the world. -/
namespace Go.Ab
set_option linter.unusedVariables false
set_option linter.unusedSimpArgs false

structure Bnd (k : Nat) (S : Sw) : Prop where
  u : S.under.length ≤ k
  t : S.tells.length ≤ 2 * k
  w : ∀ i, S.work i ≤ 4 + 3 * k
variable {n v k g : Nat} {S : Sw} {st : St}
theorem Bnd.mono (h : Bnd k S) {m : Nat} (hm : k ≤ m) : Bnd m S := ⟨by have := h.u; omega, by have := h.t; omega, fun i => by have := h.w i; omega⟩
theorem rest_under (S : Sw) (v : Nat) : (rest S v).under = S.under := by unfold rest; split; rfl; split <;> rfl
theorem rest_work (S : Sw) (v : Nat) : (rest S v).work = S.work := by unfold rest; split; rfl; split <;> rfl
theorem rest_tells (S : Sw) (v : Nat) : (rest S v).tells.length ≤ S.tells.length + 1 := by
  unfold rest; split
  · omega
  · split
    · omega
    · split <;> simp
theorem Bnd.rest (h : Bnd k S) : Bnd (k + 1) (rest S v) :=
  ⟨by rw [rest_under]; have := h.u; omega, by have := rest_tells S v; have := h.t; omega, fun i => by rw [rest_work]; have := h.w i; omega⟩
theorem Bnd.send (h : Bnd k S) {to : Nat} : Bnd (k + 1) (send S v to) := by
  unfold Go.Ab.send; split
  · exact h.mono (by omega)
  · refine ⟨by rw [rest_under]; have := h.u; simp; omega, ?_, fun i => ?_⟩
    · refine Nat.le_trans (rest_tells _ _) ?_
      have := h.t; show S.tells.length + 1 ≤ _; omega
    · rw [rest_work]
      simp only [upd]; split
      · have := h.w v; omega
      · have := h.w i; omega
theorem Bnd.tell (h : Bnd k S) {i p : Nat} (hi : i < S.tells.length) : Bnd (k + 1) (tellAt S i p) := by
  unfold tellAt
  refine ⟨by rw [rest_under]; have := h.u; show S.under.length ≤ _; omega, ?_, fun j => ?_⟩
  · refine Nat.le_trans (rest_tells _ _) ?_
    have := h.t; show (S.tells.take i ++ S.tells.drop (i + 1)).length + 1 ≤ _; simp; omega
  · rw [rest_work]; have := h.w j; show S.work j ≤ _; omega
theorem Bnd.come (h : Bnd k S) {i : Nat} {m : Nat × Nat} {more : Nat} (hi : i < S.under.length) (hm : more ≤ 3) : Bnd (k + 1) (comeAt S i m more) := by
  unfold comeAt lay
  have hu : (S.under.take i ++ S.under.drop (i + 1)).length ≤ k := by have := h.u; simp; omega
  have ht := h.t
  refine ⟨?_, ?_, fun j => ?_⟩
  · rw [rest_under]; unfold meets; split
    · show (S.under.take i ++ S.under.drop (i + 1)).length ≤ _; omega
    · show (S.under.take i ++ S.under.drop (i + 1)).length ≤ _; omega
  · refine Nat.le_trans (rest_tells _ _) ?_
    unfold meets; split
    · show (S.tells ++ [m.1]).length + 1 ≤ _; simp; omega
    · show S.tells.length + 1 ≤ _; omega
  · rw [rest_work]
    have e : (meets { S with under := S.under.take i ++ S.under.drop (i + 1) } m).work = S.work := by unfold meets; split <;> rfl
    simp only [e, upd]; split
    · have := h.w m.2; omega
    · have := h.w j; omega

/-- A world stands, with all that holds of it. -/
def Wd (n g k : Nat) (st : St) (S : Sw) : Prop := (∃ ids wid tn tu tt, At n g ids wid tn tu tt st S) ∧ Inv n S ∧ Bnd k S
theorem Inv.debt_le (h : Inv n S) (hb : Bnd k S) {i : Nat} (hi : i < n) : (S.nd i).debt ≤ 3 * k + n := by
  have := h.debt i hi
  have h1 := List.countP_le_length (l := S.under) (p := fun m => m.1 == i)
  have h2 := List.count_le_length (l := S.tells) (a := i)
  have h3 : kids n S i ≤ n := by unfold kids; have := List.countP_le_length (l := List.range n) (p := child S i); simpa using this
  have := hb.u; have := hb.t
  omega

theorem do_send (h : Wd n g k st S) (hn : n ≤ 65) (hk : k ≤ 100000) {to : Nat} (hv : v < n) (ht : to < n) : ∃ st' S', s8 [.ptr g 0, .int .i64 (v : Nat), .int .i64 (to : Nat)] st = some (.ret (.tup []), st') ∧ Wd n g (k + 1) st' S' := by
  obtain ⟨⟨ids, wid, tn, tu, tt, ha⟩, hi, hb⟩ := h
  have := hb.u; have := hb.t; have := hb.w v; have := hi.debt_le hb hv
  obtain ⟨st', tu', tt', r1, r2⟩ := sends_s ha hv to (by omega) (by omega) (by omega) (by omega)
  exact ⟨st', _, r1, ⟨_, _, _, _, _, r2⟩, hi.send hv ht, hb.send⟩
theorem do_rest (h : Wd n g k st S) (hk : k ≤ 100000) (hv : v < n) : ∃ st', s11 [.ptr g 0, .int .i64 (v : Nat)] st = some (.ret (.tup []), st') ∧ Wd n g (k + 1) st' (rest S v) := by
  obtain ⟨⟨ids, wid, tn, tu, tt, ha⟩, hi, hb⟩ := h
  have := hb.t
  obtain ⟨st', tt', r1, r2⟩ := rests_s ha hv (by omega)
  exact ⟨st', r1, ⟨_, _, _, _, _, r2⟩, hi.rest hv, hb.rest⟩
theorem do_tell (h : Wd n g k st S) (hn : n ≤ 65) (hk : k ≤ 100000) (x : Int) : ∃ st' S', s10 [.ptr g 0, .int .i64 x] st = some (.ret (.tup []), st') ∧ Wd n g (k + 1) st' S' ∧ ((S.tells = [] ∧ S' = S) ∨ ∃ i, ∃ (hi : i < S.tells.length), S' = tellAt S i S.tells[i]) := by
  obtain ⟨⟨ids, wid, tn, tu, tt, ha⟩, hi, hb⟩ := h
  by_cases h0 : S.tells = []
  · exact ⟨st, S, told_nil ha x h0, ⟨⟨_, _, _, _, _, ha⟩, hi, hb.mono (by omega)⟩, .inl ⟨h0, rfl⟩⟩
  · have := hb.t
    obtain ⟨i, p, hlt, rfl, st', tu', tt', r1, r2⟩ := tells_s ha x h0 (by omega) (by
      intro p hp
      have hpn := hi.tells p hp
      have hd := hi.debt p hpn
      have hc := List.count_pos_iff.mpr hp
      have := hi.debt_le hb hpn
      exact ⟨hpn, by omega, by omega⟩)
    exact ⟨st', _, r1, ⟨⟨_, _, _, _, _, r2⟩, hi.tell hlt, hb.tell hlt⟩, .inr ⟨i, hlt, rfl⟩⟩
theorem do_come (h : Wd n g k st S) (hn : n ≤ 65) (hk : k ≤ 100000) (x : Int) {more : Nat} (hm : more ≤ 3) : ∃ st' S', s9 [.ptr g 0, .int .i64 x, .int .i64 (more : Nat)] st = some (.ret (.tup []), st') ∧ Wd n g (k + 1) st' S' ∧ ((S.under = [] ∧ S' = S) ∨ ∃ i, ∃ (hi : i < S.under.length), S' = comeAt S i S.under[i] more) := by
  obtain ⟨⟨ids, wid, tn, tu, tt, ha⟩, hi, hb⟩ := h
  by_cases h0 : S.under = []
  · exact ⟨st, S, comes_nil ha x _ h0, ⟨⟨_, _, _, _, _, ha⟩, hi, hb.mono (by omega)⟩, .inl ⟨h0, rfl⟩⟩
  · have := hb.t; have := hb.u
    obtain ⟨i, m, hlt, rfl, st', tu', tt', r1, r2⟩ := comes_s ha x more h0 (by omega) (by omega) (by
      intro m hmm
      have := hi.under m hmm
      obtain ⟨i, hlt, rfl⟩ := List.getElem_of_mem hmm
      have := hb.w S.under[i].2
      exact ⟨(hi.under _ hmm).1, (hi.under _ hmm).2, (hi.come hlt more).2, by omega⟩)
    exact ⟨st', _, r1, ⟨⟨_, _, _, _, _, r2⟩, (hi.come hlt more).1, hb.come hlt hm⟩, .inr ⟨i, hlt, rfl⟩⟩
end Go.Ab
