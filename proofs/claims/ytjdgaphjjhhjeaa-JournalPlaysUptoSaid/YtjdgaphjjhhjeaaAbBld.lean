import Derived.Test.YtjdgaphjjhhjeaaAbForget
import Derived.Shelf.Strings.Builder1
/- (*strings.Builder).copyCheck, as the engine sees it. -/
namespace Go.Ab
open Go.RowKit
set_option linter.unusedVariables false
set_option linter.unusedSimpArgs false

/-- All stays as it was. -/
def A.cpchk (kt : Nat) : Fn := fun args st =>
  match args with
  | [.ptr id 0] => (match st.ob id with
    | some (.cells (.bld k :: x)) => _root_.cond (Nat.beq k kt) (some (.ret (.tup []), st)) none
    | _ => none)
  | _ => none

theorem cpchk_sim {P : Program} {f kt : Nat} (hok : okFn P f = true)
    (h1 : ∀ (b : Nat) (w : World), w.cell? ⟨b, 0, none⟩ = some (.pointer (some ⟨b, 0, none⟩)) → Calls P f #[.pointer (some ⟨b, 0, none⟩)] w fun e w' => e = .returned (.tuple #[]) ∧ w' = w)
    (h2 : ∀ (b : Nat) (w : World), w.cell? ⟨b, 0, none⟩ = some (.pointer none) → w.shape? b = some (kt, 2) → w.frozen? ⟨b, 0, none⟩ = false → Calls P f #[.pointer (some ⟨b, 0, none⟩)] w fun e w' => e = .returned (.tuple #[]) ∧ w' = w.setCell ⟨b, 0, none⟩ (.pointer (some ⟨b, 0, none⟩))) : Sim P f (A.cpchk kt) := by
  refine ⟨hok, fun W0 B e args cargs out st' hs hr ha => ?_⟩
  unfold A.cpchk at hs
  split at hs
  case h_2 => cases hs
  rename_i id
  split at hs
  case h_2 => cases hs
  rename_i k x hob
  cases hk : Nat.beq k kt with
  | false => rw [hk] at hs; cases hs
  | true =>
  rw [hk] at hs
  cases hs
  have := Nat.eq_of_beq_eq_true hk
  subst this
  obtain ⟨hB, hone, c, ty, fz, hb, hu, hle, hrs, hbld⟩ := hr.cells id _ hob
  obtain ⟨hty, hsz, hc0⟩ := hbld k x rfl
  subst hty
  have hfr := (hr.live id _ hob).2
  obtain ⟨l, rfl⟩ : ∃ l : List Value, cargs = l.toArray := ⟨cargs.toList, by simp⟩
  simp only [List.toList_toArray] at ha
  cases ha with
  | ptr _ _ a hn hl h3 =>
  cases h3
  have := hl _ hob
  subst this
  have hcell : e.w.cell? ⟨e.σ id, 0, none⟩ = c[0]? := by simp [World.cell?, hb]
  rcases hc0 with hc0 | hc0
  · -- fresh
    have hfz : e.w.frozen? ⟨e.σ id, 0, none⟩ = false := by
      have := hu 0 (Nat.le_refl _) (by omega)
      simp only [World.frozen?, hb]
      rw [Bool.and_eq_false_iff]
      by_cases h : fz.1 ≤ 0
      · right; simp only [decide_eq_false_iff_not]; omega
      · left; simp only [decide_eq_false_iff_not]; exact h
    refine (h2 (e.σ id) e.w (by rw [hcell, hc0]) (by simp [World.shape?, hb, hsz]) hfz).mono fun en w' hh => ?_
    obtain ⟨rfl, rfl⟩ := hh
    have hset : e.w.setCell ⟨e.σ id, 0, none⟩ (.pointer (some ⟨e.σ id, 0, none⟩)) = setBlk e.w (e.σ id) (.cells (c.setIfInBounds 0 (.pointer (some ⟨e.σ id, 0, none⟩))) ty fz) := by
      simp only [World.setCell, setBlk]
      congr 1
      apply Array.ext_getElem?
      intro j
      rw [Array.getElem?_modify, Array.getElem?_setIfInBounds]
      by_cases hj : e.σ id = j
      · subst hj
        have := (Array.getElem?_eq_some_iff.mp hb).1
        rw [if_pos rfl, if_pos rfl, hb, if_pos this]
        rfl
      · rw [if_neg hj, if_neg hj]
    have hsz' : (c.setIfInBounds 0 (.pointer (some ⟨e.σ id, 0, none⟩))).size = c.size := by simp
    have hs : ∀ c1 ty1 fz1, Obj.cells c ty fz = .cells c1 ty1 fz1 → ∃ c' fz', Obj.cells (c.setIfInBounds 0 (.pointer (some ⟨e.σ id, 0, none⟩))) ty fz = .cells c' ty1 fz' ∧ c'.size = c1.size := by
      intro c1 ty1 fz1 he; cases he; exact ⟨_, _, rfl, hsz'⟩
    have hlive : ∃ o', e.st.ob id = some o' := ⟨_, hob⟩
    have hst : (e.upd id (.cells (.bld ty :: x)) (.cells (c.setIfInBounds 0 (.pointer (some ⟨e.σ id, 0, none⟩))) ty fz)).st = e.st := by
      show e.st.put id _ = e.st
      have : (fun i => if i = id then some (Ob.cells (.bld ty :: x)) else e.st.ob i) = e.st.ob := by
        funext i
        split
        · rename_i h; rw [h, hob]
        · rfl
      unfold St.put
      rw [this]
    refine ⟨e.upd id (.cells (.bld ty :: x)) (.cells (c.setIfInBounds 0 (.pointer (some ⟨e.σ id, 0, none⟩))) ty fz), hst, hset.symm, Ext.upd hlive hb hfr hs, hr.upd hlive hb hs hB ?_ (by intro es he; cases he), .tuple #[], rfl, .tup [] #[] .nil .nil⟩
    intro cs he
    cases he
    refine ⟨hone, _, _, _, rfl, fun j h1 h2 => hu j h1 (by rw [hsz'] at h2; exact h2), by rw [hsz']; exact hle, ?_, ?_⟩
    · obtain ⟨l, hl⟩ : ∃ l : List Value, c = l.toArray := ⟨c.toList, by simp⟩
      subst hl
      cases l with
      | nil => simp at hsz
      | cons a l =>
        simp only [List.length_cons, List.take_succ_cons] at hrs
        simp only [List.setIfInBounds_toArray, List.set_cons_zero, List.length_cons, List.take_succ_cons]
        exact .bld ty _ hrs.both.2
    · intro k' x' hx
      cases hx
      refine ⟨rfl, by rw [hsz']; exact hsz, .inr ?_⟩
      have : 0 < c.size := by omega
      simp [this]
  · refine (h1 (e.σ id) e.w (by rw [hcell, hc0])).mono fun en w' hh => ?_
    obtain ⟨rfl, rfl⟩ := hh
    exact ⟨e, rfl, rfl, Ext.refl e, hr, .tuple #[], rfl, .tup [] #[] .nil .nil⟩
end Go.Ab
