import Derived.Test.YtjdgaphjjhhjeaaAbX04a
/- What is read of packs that are cut. -/
namespace Go.Ab
open Go.Proofs Go.RowKit Go.Oct
set_option linter.unusedVariables false
set_option linter.unusedSimpArgs false
theorem packB_len (n : Note) : (packB n).length = 8 + (bodyB n).length := by
  unfold packB; rw [List.length_append, List.length_append, four_len, four_len]
theorem packB_le {n : Note} (hp : packOK n = true) : (packB n).length ≤ 1048584 := by
  simp only [packOK, Bool.and_eq_true, decide_eq_true_eq] at hp
  rw [packB_len]; omega
/-- A pack that is cut is not read. -/
theorem unp_cut {n : Note} (hp : packOK n = true) {i : Nat} (h : i < (packB n).length) : (unpL ((packB n).take i)).2.2 ≠ 0 := by
  have hb : (bodyB n).length ≤ 1048576 := by simp only [packOK, Bool.and_eq_true, decide_eq_true_eq] at hp; exact hp.2
  rw [packB_len] at h
  have hl : ((packB n).take i).length = i := by rw [List.length_take, packB_len]; omega
  by_cases h8 : i < 8
  · unfold unpL
    rw [if_pos (by omega)]; simp
  · have h4 : of4 ((packB n).take i) = (bodyB n).length := by
      have : of4 ((packB n).take i) = of4 (packB n) := by unfold of4; rw [List.take_take, Nat.min_eq_left (by omega)]
      rw [this]
      unfold packB
      rw [List.append_assoc]
      exact of4_four _ (by omega) _
    unfold unpL
    rw [if_neg (by omega), h4, if_neg (by omega), if_pos (by omega)]; simp
theorem unp_nil : (unpL []).2.2 ≠ 0 := by unfold unpL; rw [if_pos (by simp)]; simp
/-- How many bytes the first ones have. -/
def pl (G : List Note) (j : Nat) : Nat := (packsB (G.take j)).length
theorem packsB_app (a b : List Note) : packsB (a ++ b) = packsB a ++ packsB b := by simp [packsB]
theorem pl_succ {G : List Note} {i : Nat} (h : i < G.length) : pl G (i + 1) = pl G i + (packB G[i]).length := by
  unfold pl
  rw [List.take_succ_eq_append_getElem h, packsB_snoc, List.length_append]
theorem pl_mono (G : List Note) {i j : Nat} (h : i ≤ j) : pl G i ≤ pl G j := by
  unfold pl
  have e : G.take i = (G.take j).take i := by rw [List.take_take, Nat.min_eq_left h]
  have : packsB (G.take j) = packsB (G.take i) ++ packsB ((G.take j).drop i) := by rw [← packsB_app, e, List.take_append_drop]
  rw [this, List.length_append]; omega
theorem pl_all (G : List Note) : pl G G.length = (packsB G).length := by unfold pl; rw [List.take_length]
theorem pl_ge : ∀ (G : List Note) (i : Nat), i ≤ G.length → i ≤ pl G i
  | G, 0, _ => by omega
  | G, i + 1, h => by
    have := pl_ge G i (by omega)
    rw [pl_succ (by omega), packB_len]; omega
theorem drop_pl {G : List Note} {i : Nat} (h : i < G.length) : (packsB G).drop (pl G i) = packB G[i] ++ packsB (G.drop (i + 1)) := by
  have e : packsB G = packsB (G.take i) ++ (packB G[i] ++ packsB (G.drop (i + 1))) := by
    have : G = G.take i ++ (G[i] :: G.drop (i + 1)) := by rw [← List.drop_eq_getElem_cons h, List.take_append_drop]
    refine (congrArg packsB this).trans ?_
    simp only [packsB, List.flatMap_append, List.flatMap_cons]
  unfold pl
  rw [e, List.drop_left' rfl]
theorem all_cut {G : List Note} (hG : ∀ n ∈ G, packOK n = true ∧ n.texts.length + lens n.rows ≤ 4096) {k j : Nat} (hk : k ≤ (packsB G).length) (hj : j ≤ G.length) (h1 : pl G j ≤ k) (h2 : j = G.length ∨ k < pl G (j + 1)) :
    ∀ (d i m : Nat), i + d = j → d + 1 ≤ m → allL ((packsB G).take k) m (pl G i) (G.take i) = (G.take j, pl G j) := by
  intro d
  induction d with
  | zero =>
    intro i m hi hm
    obtain ⟨m, rfl⟩ : ∃ q, m = q + 1 := ⟨m - 1, by omega⟩
    have : i = j := by omega
    subst this
    unfold allL
    rw [if_neg]
    rcases h2 with h2 | h2
    · subst h2
      have : pl G G.length = k := by rw [pl_all] at h1 ⊢; omega
      rw [this, List.drop_eq_nil_of_le (by rw [List.length_take]; omega)]
      exact unp_nil
    · by_cases hl : i < G.length
      · rw [List.drop_take, drop_pl hl, List.take_append_of_le_length (by rw [pl_succ hl] at h2; omega)]
        exact unp_cut (hG _ (List.getElem_mem hl)).1 (by rw [pl_succ hl] at h2; omega)
      · have e : i = G.length := by omega
        subst e
        have : pl G G.length = k := by rw [pl_all] at h1 ⊢; omega
        rw [this, List.drop_eq_nil_of_le (by rw [List.length_take]; omega)]
        exact unp_nil
  | succ d ih =>
    intro i m hi hm
    obtain ⟨m, rfl⟩ : ∃ q, m = q + 1 := ⟨m - 1, by omega⟩
    have hl : i < G.length := by omega
    have hs := pl_succ hl
    have hm2 := pl_mono G (show i + 1 ≤ j by omega)
    obtain ⟨g1, g2⟩ := hG _ (List.getElem_mem hl)
    have e : ((packsB G).take k).drop (pl G i) = packB G[i] ++ (packsB (G.drop (i + 1))).take (k - pl G i - (packB G[i]).length) := by
      rw [List.drop_take, drop_pl hl, List.take_append, List.take_of_length_le (by omega)]
    have hu := unp_pack g1 g2 ((packsB (G.drop (i + 1))).take (k - pl G i - (packB G[i]).length))
    unfold allL
    rw [e, hu]
    simp only [if_true]
    rw [← hs, ← List.take_succ_eq_append_getElem hl]
    exact ih (i + 1) m (by omega) (by omega)
theorem allN_cut {G : List Note} (hG : ∀ n ∈ G, packOK n = true ∧ n.texts.length + lens n.rows ≤ 4096) {k j : Nat} (hk : k ≤ (packsB G).length) (hj : j ≤ G.length) (h1 : pl G j ≤ k) (h2 : j = G.length ∨ k < pl G (j + 1)) :
    allN ((packsB G).take k) = (G.take j, pl G j) := by
  have := pl_ge G j hj
  have q := all_cut hG hk hj h1 h2 j 0 (((packsB G).take k).length + 1) (by omega) (by rw [List.length_take]; omega)
  unfold allN
  rw [show pl G 0 = 0 by simp [pl, packsB]] at q
  exact q
end Go.Ab
