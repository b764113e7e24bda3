import Derived.Test.YtmbaebedkobijaaProg
import Derived.WalkKit
import Derived.ProofKit
import Derived.WalkLawsBesides
import Derived.Deep.RegionHeld3
/- sinew/words: how Sorted compares. -/
namespace Go.Ab
open Go.RowKit Go.Proofs
set_option linter.unusedVariables false
set_option linter.unusedSimpArgs false
def cmpS (x y : List UInt8) : Int := if Op.bytesLess x y then -1 else if Op.bytesLess x y || x == y then 0 else 1
theorem isnan_c (s : ByteArray) (w : World) : Calls Try.prog 30 #[.string s] w fun e w' => e = .returned (.bool false) ∧ w' = w := by
  go_enter Try.func30, Try.ntmps30
  go_wp2
  go_ret
  simp
theorem cmp_c (s t : ByteArray) (w : World) : Calls Try.prog 26 #[.string s, .string t] w fun e w' => e = .returned (.int .i64 (cmpS s.toList t.toList)) ∧ w' = w := by
  unfold cmpS
  cases h1 : Op.bytesLess s.toList t.toList with
  | true =>
    go_enter Try.func26, Try.ntmps26
    go_wp2_with (go_at_call 30; refine (isnan_c _ _).mono ?_; rintro e w' ⟨rfl, rfl⟩)
    go_ret
    simp
  | false =>
    cases h2 : (s.toList == t.toList) with
    | true =>
      go_enter Try.func26, Try.ntmps26
      go_wp2_with (go_at_call 30; refine (isnan_c _ _).mono ?_; rintro e w' ⟨rfl, rfl⟩)
      go_ret
      simp
    | false =>
      go_enter Try.func26, Try.ntmps26
      go_wp2_with (go_at_call 30; refine (isnan_c _ _).mono ?_; rintro e w' ⟨rfl, rfl⟩)
      go_ret
      simp
theorem closure_c (x y : Nat) (c dd b o : Nat) (len cap : Nat) (s t : ByteArray) (hx : x < len) (hy : y < len) (hl : len ≤ 4611686018427387904) (w : World)
    (h1 : w.cell? ⟨c, 0, none⟩ = some (.pointer (some ⟨dd, 0, none⟩))) (h2 : w.cell? ⟨dd, 1, none⟩ = some (.slice (some ⟨b, o, none⟩) len cap)) (h3 : w.cell? ⟨b, o + x, none⟩ = some (.string s)) (h4 : w.cell? ⟨b, o + y, none⟩ = some (.string t)) :
    Calls Try.prog 25 #[.int .i64 x, .int .i64 y, .pointer (some ⟨c, 0, none⟩)] w fun e w' => e = .returned (.int .i64 (cmpS s.toList t.toList)) ∧ ∃ q, w' = w.drewN q := by
  have a1 : (0 : Int) ≤ (x : Int) := by omega
  have a2 : (x : Int) < (len : Int) := by omega
  have a3 : (0 : Int) ≤ (y : Int) := by omega
  have a4 : (y : Int) < (len : Int) := by omega
  generalize hr : cmpS s.toList t.toList = r
  have hc := fun W => cmp_c s t W
  rw [hr] at hc
  go_enter Try.func25, Try.ntmps25
  go_wp2
  go_region_held3 (fun w' => w'.cell? ⟨c, 0, none⟩ = some (.pointer (some ⟨dd, 0, none⟩)) ∧ w'.cell? ⟨dd, 1, none⟩ = some (.slice (some ⟨b, o, none⟩) len cap) ∧ w'.cell? ⟨b, o + x, none⟩ = some (.string s) ∧ w'.cell? ⟨b, o + y, none⟩ = some (.string t)) (go_keep)
    (first | (go_at_call 26; refine (hc _).mono ?_; rintro e w' ⟨rfl, rfl⟩))
  all_goals go_wp2
  all_goals go_ret
  all_goals exact ⟨rfl, 1, rfl⟩
end Go.Ab
