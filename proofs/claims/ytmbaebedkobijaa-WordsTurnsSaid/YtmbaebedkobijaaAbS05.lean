import Derived.Test.YtmbaebedkobijaaAbC05
import Derived.Test.YtmbaebedkobijaaAbWrl
import Derived.Test.YtmbaebedkobijaaAbForget
import Derived.Shelf.SlSortCmp.Kit1
import Derived.Sort.Walk0
import Derived.Sort.LotA
/- sinew/words: slices.SortFunc, as Sorted calls it. -/
namespace Go.Ab
open Go.RowKit Go.Proofs Go.Sort Go.Lib
set_option linter.unusedVariables false
set_option linter.unusedSimpArgs false
def natsV : List V → Option (List Nat)
  | [] => some []
  | .int .i64 (.ofNat k) :: l => (match natsV l with | some ks => some (k :: ks) | none => none)
  | _ => none
def textsV : List V → Option (List (List UInt8))
  | [] => some []
  | .str s :: l => (match textsV l with | some ks => some (s :: ks) | none => none)
  | _ => none
/-- Numbers of words, in the words' order. -/
def insW (ws : List (List UInt8)) (k : Nat) : List Nat → List Nat
  | [] => [k]
  | j :: l => if Op.bytesLess (ws.getD j []) (ws.getD k []) then j :: insW ws k l else k :: j :: l
def sortW (ws : List (List UInt8)) (ks : List Nat) : List Nat := ks.foldl (fun l k => insW ws k l) []
def sortA (st : St) (id n c : Nat) : Option (List V) :=
  match st.ob id, st.ob c with
  | some (.cells cs), some (.cells [.ptr d 0]) => (match st.ob d with
    | some (.cells [_, .lst l _]) => (match natsV cs, textsV l with
      | some ks, some ws => if cs.length = n ∧ 0 < n ∧ n ≤ 1073741824 ∧ ws.length ≤ 1073741824 ∧ (ks.all fun k => decide (k < ws.length)) = true ∧ ws.Nodup ∧ id ≠ c ∧ id ≠ d then some ((sortW ws ks).map fun (k : Nat) => V.int .i64 (k : Nat)) else none
      | _, _ => none)
    | _ => none)
  | _, _ => none
def a24 : Fn := fun args st => match args with
  | [.lst [] _, .fn _ _ _] => some (.ret (.tup []), st)
  | [.sl id 0 n 1, .fn 25 [] [.ptr c 0]] => (match sortA st id n c with | some cs => some (.ret (.tup []), st.put id (.cells cs)) | none => none)
  | _ => none
theorem natsV_some : ∀ {l : List V} {ks : List Nat}, natsV l = some ks → l = ks.map fun (k : Nat) => V.int .i64 (k : Nat)
  | [], ks, h => by cases h; rfl
  | v :: l, ks, h => by
    unfold natsV at h
    split at h
    · cases ‹_ :: _ = []›
    · rename_i k l' he
      cases he
      split at h
      · rename_i ks' hk
        cases h
        rw [natsV_some hk]; rfl
      · cases h
    · cases h
theorem textsV_some : ∀ {l : List V} {ks : List (List UInt8)}, textsV l = some ks → l = ks.map V.str
  | [], ks, h => by cases h; rfl
  | v :: l, ks, h => by
    unfold textsV at h
    split at h
    · cases ‹_ :: _ = []›
    · rename_i k l' he
      cases he
      split at h
      · rename_i ks' hk
        cases h
        rw [textsV_some hk]; rfl
      · cases h
    · cases h
/-! the order -/
theorem less_iff (x y : List UInt8) : Op.bytesLess x y = decide (x < y) := bytesLess_eq x y
theorem cmpS_lt (x y : List UInt8) : decide (cmpS x y < 0) = Op.bytesLess x y := by
  unfold cmpS
  cases Op.bytesLess x y with
  | true => simp
  | false => cases (x == y) <;> simp
theorem less_irr (x : List UInt8) : Op.bytesLess x x = false := by rw [less_iff]; simp
theorem less_tr {x y z : List UInt8} (h1 : Op.bytesLess x y = true) (h2 : Op.bytesLess y z = true) : Op.bytesLess x z = true := by
  rw [less_iff, decide_eq_true_eq] at *; exact List.lt_trans h1 h2
theorem less_tot : ∀ {x y : List UInt8}, Op.bytesLess x y = false → Op.bytesLess y x = false → x = y
  | [], [], _, _ => rfl
  | [], b :: y, h, _ => by simp [Op.bytesLess] at h
  | a :: x, [], _, h => by simp [Op.bytesLess] at h
  | a :: x, b :: y, h1, h2 => by
    simp only [Op.bytesLess, Bool.or_eq_false_iff, Bool.and_eq_false_imp, beq_iff_eq, decide_eq_false_iff_not, UInt8.not_lt] at h1 h2
    have hab : a = b := UInt8.le_antisymm h2.1 h1.1
    subst hab
    rw [less_tot (h1.2 rfl) (h2.2 rfl)]
/-- Sorted, and the same words. -/
theorem insW_perm (ws : List (List UInt8)) (k : Nat) : ∀ l, (insW ws k l).Perm (k :: l)
  | [] => List.Perm.refl _
  | j :: l => by
    unfold insW
    split
    · exact ((insW_perm ws k l).cons j).trans (List.Perm.swap k j l)
    · exact List.Perm.refl _
theorem sortW_go (ws : List (List UInt8)) : ∀ (ks l : List Nat), (ks.foldl (fun l k => insW ws k l) l).Perm (ks ++ l)
  | [], l => List.Perm.refl _
  | k :: ks, l => by
    rw [List.foldl_cons]
    refine (sortW_go ws ks _).trans ?_
    refine ((insW_perm ws k l).append_left ks).trans ?_
    rw [List.cons_append]
    exact List.perm_middle
theorem sortW_perm (ws : List (List UInt8)) (ks : List Nat) : (sortW ws ks).Perm ks := by
  have := sortW_go ws ks []
  rw [List.append_nil] at this
  exact this
def leW (ws : List (List UInt8)) (i j : Nat) : Prop := Op.bytesLess (ws.getD j []) (ws.getD i []) = false
theorem leW_trans {ws : List (List UInt8)} {i j k : Nat} (h1 : leW ws i j) (h2 : leW ws j k) : leW ws i k := by
  unfold leW at *
  cases h : Op.bytesLess (ws.getD k []) (ws.getD i []) with
  | false => rfl
  | true =>
    by_cases h3 : Op.bytesLess (ws.getD i []) (ws.getD j []) = true
    · rw [less_tr h h3] at h2; cases h2
    · rw [less_tot h1 (by simpa using h3)] at h2
      rw [h2] at h; cases h
theorem insW_sorted (ws : List (List UInt8)) (k : Nat) : ∀ l, l.Pairwise (leW ws) → (insW ws k l).Pairwise (leW ws)
  | [], _ => by simp [insW]
  | j :: l, h => by
    unfold insW
    rw [List.pairwise_cons] at h
    split
    · rename_i hj
      rw [List.pairwise_cons]
      refine ⟨fun x hx => ?_, insW_sorted ws k l h.2⟩
      rcases List.mem_cons.1 ((insW_perm ws k l).mem_iff.1 hx) with g | g
      · subst g
        unfold leW
        cases hc : Op.bytesLess (ws.getD x []) (ws.getD j []) with
        | false => rfl
        | true => have := less_tr hc hj; rw [less_irr] at this; cases this
      · exact h.1 x g
    · rename_i hj
      have hjk : leW ws k j := by unfold leW; simpa using hj
      rw [List.pairwise_cons, List.pairwise_cons]
      refine ⟨fun x hx => ?_, h⟩
      rcases List.mem_cons.1 hx with g | g
      · subst g; exact hjk
      · exact leW_trans hjk (h.1 x g)
theorem sortW_sorted (ws : List (List UInt8)) (ks : List Nat) : (sortW ws ks).Pairwise (leW ws) := by
  have : ∀ (ks l : List Nat), l.Pairwise (leW ws) → (ks.foldl (fun l k => insW ws k l) l).Pairwise (leW ws) := by
    intro ks
    induction ks with
    | nil => intro l h; exact h
    | cons k ks ih => intro l h; exact ih _ (insW_sorted ws k l h)
  exact this ks [] (by simp)
end Go.Ab
