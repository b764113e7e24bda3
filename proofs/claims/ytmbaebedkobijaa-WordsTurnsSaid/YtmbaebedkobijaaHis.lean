import Derived.Test.YtmbaebedkobijaaHcf
import Derived.WalkKit
import Derived.ProofKit
import Derived.Test.YtmbaebedkobijaaWWords
import Derived.Test.YtmbaebedkobijaaWLast
import Derived.Test.YtmbaebedkobijaaWMore
import Derived.Lib.MapLaws
import Derived.Lib.TrimUEq
/- words.Is. -/
namespace Go.Proofs.Ytmbaebedkobijaa.Hand
open Go.RowKit Go.Shelf Go.Proofs.YtmbaebedkobijaaW.PrintWords Go.Proofs.YtmbaebedkobijaaW.PrintLast Go.Proofs.YtmbaebedkobijaaW.PrintMore
set_option linter.unusedVariables false
set_option linter.unusedSimpArgs false
/-- Is a rune none of a word? -/
def oddR (n : Nat) : Bool := ((n < 97 || 122 < n) && (n < 48 || 57 < n)) && n != 45 && n != 58
theorem odd_calls (x : Int) (w : World) :
    Calls Try.prog 21 #[.int .i32 x] w fun e w' => e = .returned (.bool (((decide (x < 97) || decide (122 < x)) && (decide (x < 48) || decide (57 < x))) && x != 45 && x != 58)) ∧ Below w.heap.size w w' := by
  obtain ⟨a, ha⟩ : ∃ a, decide (x < 97) = a := ⟨_, rfl⟩
  obtain ⟨b, hb⟩ : ∃ b, decide (122 < x) = b := ⟨_, rfl⟩
  obtain ⟨c, hc⟩ : ∃ c, decide (x < 48) = c := ⟨_, rfl⟩
  obtain ⟨d, hd⟩ : ∃ d, decide (57 < x) = d := ⟨_, rfl⟩
  obtain ⟨e, he⟩ : ∃ e, (x != 45) = e := ⟨_, rfl⟩
  obtain ⟨f, hf⟩ : ∃ f, (x != 58) = f := ⟨_, rfl⟩
  rw [ha, hb, hc, hd, he, hf]
  cases a <;> cases b <;> cases c <;> cases d <;> cases e <;>
  · go_enter Try.func21, Try.ntmps21
    go_wp2
    go_ret
    exact ⟨by simp [*], by repeat (first | exact Below.refl _ _ | apply below_drew1 | apply pw_below_drewN)⟩
def words_Is.f (s : ByteArray) : Option Bool := some ((decide (s.size ≠ 0) && decide (s.size ≤ 16)) && !(decide (0 ≤ Lib.idxFunc oddR true s)))
theorem words_Is.calls (s : ByteArray) (r : Bool) (w : World) (h : words_Is.f s = some r) :
    Calls Try.prog 9 #[.string s] w fun e w' => e = .returned (.bool r) ∧ Below w.heap.size w w' := by
  have hs : s.toList = [] ↔ s.size = 0 := by
    rw [ByteArray.toList_eq]
    constructor
    · intro h; have := congrArg List.length h; simpa using this
    · intro h; exact List.length_eq_zero_iff.mp (by simpa using h)
  obtain rfl := Option.some.inj h
  by_cases h0 : s.toList = []
  · have b0 : (s.toList == []) = true := beq_iff_eq.mpr h0
    have b1 : (s.toList != []) = false := bne_eq_false_iff_eq.mpr h0
    have hz := hs.mp h0
    go_enter Try.func9, Try.ntmps9
    go_wp2
    go_ret
    exact ⟨by simp [hz], by repeat (first | exact Below.refl _ _ | apply below_drew1 | apply pw_below_drewN)⟩
  have b0 : (s.toList == []) = false := beq_eq_false_iff_ne.mpr h0
  have b1 : (s.toList != []) = true := bne_iff_ne.mpr h0
  have hz : ¬ s.size = 0 := fun e => h0 (hs.mpr e)
  by_cases h1 : (s.size : Int) ≤ 16
  · have c0 : decide ((s.size : Int) ≤ 16) = true := decide_eq_true h1
    have c1 : decide (s.size ≤ 16) = true := decide_eq_true (by omega)
    have eg : ∀ args w, (callFunc 21 args).run Try.prog w = .ok (.enter 21 args) w := enters_of Try.func21 (by kernel_rfl) rfl
    have hp : PredGrows Try.prog 21 #[] oddR w := by
      intro W x hx hb
      refine (odd_calls (x : Int) W).mono ?_
      rintro e w' ⟨rfl, hb'⟩
      refine ⟨?_, hb'⟩
      congr 2
      unfold oddR
      have e1 : decide ((x : Int) < 97) = decide (x < 97) := decide_eq_decide.mpr (by omega)
      have e2 : decide (122 < (x : Int)) = decide (122 < x) := decide_eq_decide.mpr (by omega)
      have e3 : decide ((x : Int) < 48) = decide (x < 48) := decide_eq_decide.mpr (by omega)
      have e4 : decide (57 < (x : Int)) = decide (57 < x) := decide_eq_decide.mpr (by omega)
      have e5 : ((x : Int) != 45) = (x != 45) := by rw [Bool.eq_iff_iff]; simp only [bne_iff_ne, ne_eq]; omega
      have e6 : ((x : Int) != 58) = (x != 58) := by rw [Bool.eq_iff_iff]; simp only [bne_iff_ne, ne_eq]; omega
      rw [e1, e2, e3, e4, e5, e6]
    go_enter Try.func9, Try.ntmps9
    go_wp2_with (go_at_call 22; refine (Try.strings_ContainsFunc_grows 21 #[] eg oddR s _ hp).mono ?_; rintro e w1 ⟨rfl, hb⟩)
    go_ret
    exact ⟨by simp [hz, c1], hb⟩
  · have c0 : decide ((s.size : Int) ≤ 16) = false := decide_eq_false h1
    have c1 : decide (s.size ≤ 16) = false := decide_eq_false (by omega)
    go_enter Try.func9, Try.ntmps9
    go_wp2
    go_ret
    exact ⟨by simp [hz, c1], by repeat (first | exact Below.refl _ _ | apply below_drew1 | apply pw_below_drewN)⟩
end Go.Proofs.Ytmbaebedkobijaa.Hand
