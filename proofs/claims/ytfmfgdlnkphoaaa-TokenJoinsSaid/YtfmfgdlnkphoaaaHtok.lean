import Derived.Test.YtfmfgdlnkphoaaaPx4
/- The signs of a text: the plain law, over lists of bytes. -/
namespace Go.Proofs.Ytfmfgdlnkphoaaa.Hand
open Go.RowKit Go.Proofs.Ytfmfgdlnkphoaaa.Px Go.Proofs.YtfmfgdlnkphoaaaW.PrintWords Go.Proofs.YtfmfgdlnkphoaaaW.PrintLast Go.Proofs.YtfmfgdlnkphoaaaW.PrintMore
set_option linter.unusedVariables false
set_option linter.unusedSimpArgs false

theorem w64 (x : Int) (h0 : -9223372036854775808 ≤ x) (h1 : x < 9223372036854775808) : wrap64 x = x := by
  unfold wrap64; omega
def L (s : ByteArray) : List UInt8 := s.data.toList
theorem L_length (s : ByteArray) : (L s).length = s.size := by unfold L; rw [Array.length_toList]; rfl
def mkB (l : List UInt8) : ByteArray := ⟨l.toArray⟩
theorem L_mkB (l : List UInt8) : L (mkB l) = l := by simp [L, mkB]
theorem mkB_L (s : ByteArray) : mkB (L s) = s := by
  unfold mkB L
  cases s
  simp
theorem L_inj {s t : ByteArray} (h : L s = L t) : s = t := by rw [← mkB_L s, ← mkB_L t, h]
theorem mkB_inj {s t : List UInt8} (h : mkB s = mkB t) : s = t := by rw [← L_mkB s, ← L_mkB t, h]
theorem L_extract (s : ByteArray) (a b : Nat) : L (s.extract a b) = ((L s).drop a).take (b - a) := by
  unfold L
  rw [ByteArray.data_extract, Array.toList_extract, List.extract_eq_take_drop]
theorem L_from (s : ByteArray) (a : Nat) : L (s.extract a s.size) = (L s).drop a := by
  rw [L_extract, List.take_of_length_le]
  rw [List.length_drop, L_length]
  exact Nat.le_refl _
theorem bt_L (s : ByteArray) (i : Nat) : bt s i = (((L s).getD i 0).toNat : Int) := by
  have h := rd_bytesOf s i
  unfold rd at h
  rw [show ((i : Int)).toNat = i from by omega] at h
  rw [← h]
  unfold bytesOf L
  simp only [List.getD_eq_getElem?_getD, List.getElem?_map]
  cases s.data.toList[i]? <;> simp
theorem up {α : Type} {F : Nat → Option α} (m : ∀ k, LeO (F k) (F (k + 1))) {k k' : Nat} {r : α} (h : F k = some r) (hk : k ≤ k') : F k' = some r := by
  induction hk with
  | refl => exact h
  | step _ ih => exact m _ r ih

/-- Is a byte one of a word? a blank? a mark? -/
def pt (b : UInt8) : Bool := (97 ≤ b && b ≤ 122) || (48 ≤ b && b ≤ 57) || b == 45 || b == 58
def bl (b : UInt8) : Bool := b == 32 || b == 9 || b == 10
def mk (b : UInt8) : Bool := [123, 125, 40, 41, 46, 47, 124, 42, 43, 63].contains b
theorem all_bytes {p : UInt8 → Prop} (h : ∀ n, n < 256 → p (UInt8.ofNat n)) (b : UInt8) : p b := by
  have := h b.toNat (UInt8.toNat_lt b)
  simpa using this
theorem part_byte (b : UInt8) (k : Nat) (hk : 2 ≤ k) : token_part.f k (b.toNat : Int) = some (pt b) := by
  refine up (token_part.mono _) (k := 2) ?_ hk
  exact all_bytes (p := fun b => token_part.f 2 (b.toNat : Int) = some (pt b)) (by decide +kernel) b
theorem ref_part_byte (b : UInt8) : sinewref08_part.f (b.toNat : Int) = some (pt b) :=
  all_bytes (p := fun b => sinewref08_part.f (b.toNat : Int) = some (pt b)) (by decide +kernel) b
theorem ref_mark_byte (b : UInt8) : sinewref08_mark.f (b.toNat : Int) = some (mk b) :=
  all_bytes (p := fun b => sinewref08_mark.f (b.toNat : Int) = some (mk b)) (by decide +kernel) b
theorem mark_byte (b : UInt8) : strings_IndexByte.f (⟨#[123, 125, 40, 41, 46, 47, 124, 42, 43, 63]⟩ : ByteArray) (b.toNat : Int) = some (if mk b then Lib.indexByte [123, 125, 40, 41, 46, 47, 124, 42, 43, 63] b else -1) :=
  all_bytes (p := fun b => strings_IndexByte.f (⟨#[123, 125, 40, 41, 46, 47, 124, 42, 43, 63]⟩ : ByteArray) (b.toNat : Int) = some (if mk b then Lib.indexByte [123, 125, 40, 41, 46, 47, 124, 42, 43, 63] b else -1)) (by decide +kernel) b
theorem mark_ge (b : UInt8) (h : mk b = true) : ¬ Lib.indexByte [123, 125, 40, 41, 46, 47, 124, 42, 43, 63] b < 0 := by
  have := all_bytes (p := fun b => mk b = true → ¬ Lib.indexByte [123, 125, 40, 41, 46, 47, 124, 42, 43, 63] b < 0) (by decide +kernel) b
  exact this h
/-- The word that bytes begin with. -/
def rn (l : List UInt8) : List UInt8 := l.takeWhile pt
def rest (l : List UInt8) : List UInt8 := l.dropWhile pt
theorem rn_rest (l : List UInt8) : rn l ++ rest l = l := List.takeWhile_append_dropWhile
theorem rn_le (l : List UInt8) : (rn l).length ≤ l.length := by
  have := congrArg List.length (rn_rest l)
  rw [List.length_append] at this; omega
theorem rest_le (l : List UInt8) : (rest l).length ≤ l.length := by
  have := congrArg List.length (rn_rest l)
  rw [List.length_append] at this; omega
theorem rest_drop (l : List UInt8) : rest l = l.drop (rn l).length := by
  have h : (rn l ++ rest l).drop (rn l).length = rest l := List.drop_left
  rw [rn_rest] at h
  exact h.symm
theorem rn_take (l : List UInt8) : l.take (rn l).length = rn l := by
  have h : (rn l ++ rest l).take (rn l).length = rn l := List.take_left
  rw [rn_rest] at h
  exact h
theorem rn_cons (b : UInt8) (r : List UInt8) : rn (b :: r) = if pt b then b :: rn r else [] := by
  unfold rn; rw [List.takeWhile_cons]
theorem rest_cons (b : UInt8) (r : List UInt8) : rest (b :: r) = if pt b then rest r else b :: r := by
  unfold rest; rw [List.dropWhile_cons]
theorem getD_drop (l : List UInt8) (i : Nat) (b : UInt8) (r : List UInt8) (h : l.drop i = b :: r) : l.getD i 0 = b ∧ l.drop (i + 1) = r ∧ i < l.length := by
  have h1 : i < l.length := by
    rcases Nat.lt_or_ge i l.length with h1 | h1
    · exact h1
    · rw [List.drop_of_length_le h1] at h; cases h
  rw [List.drop_eq_getElem_cons h1] at h
  injection h with h2 h3
  refine ⟨?_, h3, h1⟩
  simp [List.getD, h1, h2]
theorem run_l0 (s : ByteArray) (hs : s.size ≤ 4611686018427387903) (d : Nat) : ∀ (i k : Nat), i ≤ s.size → s.size - i ≤ d → d + 4 ≤ k → token_run.l0 k s i = some (s.extract 0 (i + (rn ((L s).drop i)).length)) := by
  have hl := L_length s
  induction d with
  | zero =>
    intro i k hi hd hk
    obtain ⟨k, rfl⟩ : ∃ j, k = j + 1 := ⟨k - 1, by omega⟩
    rw [token_run.l0, if_neg (by omega), if_pos (by omega), if_pos (by omega), List.drop_of_length_le (by omega)]
    simp [rn]
  | succ d ih =>
    intro i k hi hd hk
    obtain ⟨k, rfl⟩ : ∃ j, k = j + 1 := ⟨k - 1, by omega⟩
    rw [token_run.l0]
    rcases hx : (L s).drop i with _ | ⟨b, r⟩
    · have : (L s).length ≤ i := by
        have := congrArg List.length hx
        rw [List.length_drop] at this; simp at this; omega
      rw [if_neg (by omega), if_pos (by omega), if_pos (by omega)]
      simp [rn]
    · obtain ⟨h1, h2, h3⟩ := getD_drop _ _ _ _ hx
      rw [if_pos (by omega), if_pos (by omega), bt_L, h1, part_byte b k (by omega), Option.bind_some, rn_cons]
      by_cases hp : pt b = true
      · rw [if_pos hp, if_pos hp, w64 _ (by omega) (by omega)]
        have := ih (i + 1) k (by omega) (by omega) (by omega)
        rw [show ((i : Int) + 1) = ((i + 1 : Nat) : Int) from rfl, this, h2]
        rw [List.length_cons, show i + 1 + (rn r).length = i + ((rn r).length + 1) from by omega]
      · rw [if_neg hp, if_neg hp, if_pos (by omega)]
        simp
theorem run_f (s : ByteArray) (hs : s.size ≤ 4611686018427387903) (k : Nat) (hk : s.size + 4 ≤ k) : token_run.f k s = some (mkB (rn (L s))) := by
  unfold token_run.f
  have := run_l0 s hs s.size 0 k (by omega) (by omega) (by omega)
  rw [show ((0 : Nat) : Int) = (0 : Int) from rfl] at this
  rw [this]
  congr 1
  apply L_inj
  rw [L_mkB, L_extract, List.drop_zero, Nat.zero_add, Nat.sub_zero, rn_take]
theorem refrun_l0 (s : ByteArray) (hs : s.size ≤ 4611686018427387903) (a : Nat) (ha : a ≤ 4611686018427387903) (d : Nat) : ∀ (i k : Nat), i ≤ s.size + 1 → s.size - (a + i) ≤ d → d + 2 ≤ k →
    sinewref08_run.l0 k s a i = some (((i + (rn ((L s).drop (a + i))).length : Nat)) : Int) := by
  have hl := L_length s
  induction d with
  | zero =>
    intro i k hi hd hk
    obtain ⟨k, rfl⟩ : ∃ j, k = j + 1 := ⟨k - 1, by omega⟩
    rw [sinewref08_run.l0, w64 _ (by omega) (by omega), if_neg (by omega), List.drop_of_length_le (by omega)]
    simp [rn]
  | succ d ih =>
    intro i k hi hd hk
    obtain ⟨k, rfl⟩ : ∃ j, k = j + 1 := ⟨k - 1, by omega⟩
    rw [sinewref08_run.l0, w64 ((a : Int) + (i : Int)) (by omega) (by omega)]
    rcases hx : (L s).drop (a + i) with _ | ⟨b, r⟩
    · have : (L s).length ≤ a + i := by
        have := congrArg List.length hx
        rw [List.length_drop] at this; simp at this; omega
      rw [if_neg (by omega)]
      simp [rn]
    · obtain ⟨h1, h2, h3⟩ := getD_drop _ _ _ _ hx
      rw [if_pos (by omega), if_pos (by omega), show ((a : Int) + (i : Int)) = ((a + i : Nat) : Int) from rfl, bt_L, h1, ref_part_byte b, Option.bind_some, rn_cons]
      by_cases hp : pt b = true
      · rw [if_pos hp, if_pos hp, w64 _ (by omega) (by omega)]
        have := ih (i + 1) k (by omega) (by omega) (by omega)
        rw [show ((i : Int) + 1) = ((i + 1 : Nat) : Int) from rfl, this, show a + (i + 1) = a + i + 1 from rfl, h2]
        rw [List.length_cons, show i + 1 + (rn r).length = i + ((rn r).length + 1) from by omega]
      · rw [if_neg hp, if_neg hp]
        simp
theorem refrun_f (s : ByteArray) (hs : s.size ≤ 4611686018427387903) (a : Nat) (ha : a ≤ 4611686018427387903) (k : Nat) (hk : s.size + 2 ≤ k) : sinewref08_run.f k s a = some ((rn ((L s).drop a)).length : Int) := by
  unfold sinewref08_run.f
  have := refrun_l0 s hs a ha s.size 0 k (by omega) (by omega) (by omega)
  rw [show ((0 : Nat) : Int) = (0 : Int) from rfl, Nat.add_zero, Nat.zero_add] at this
  rw [this]

/-- The signs of bytes that stand at a place; behind those that are there. -/
def sg (u : List UInt8) (a : Nat) (acc : List S30) : List S30 × Int × Int :=
  match u with
  | [] => (acc, 0, 0)
  | b :: r =>
    if bl b = true then sg r (a + 1) acc
    else if pt b = true then (if 16 < (rn r).length + 1 then ([], (a : Int), 80) else sg (rest r) (a + ((rn r).length + 1)) (acc ++ [⟨1, mkB (b :: rn r), (a : Int)⟩]))
    else if b = 63 ∧ 0 < (rn r).length then (if 16 < (rn r).length then ([], (a : Int), 80) else sg (rest r) (a + ((rn r).length + 1)) (acc ++ [⟨2, mkB (rn r), (a : Int)⟩]))
    else if mk b = true then sg r (a + 1) (acc ++ [⟨3, mkB [b], (a : Int)⟩])
    else ([], (a : Int), 80)
termination_by u.length
decreasing_by
  all_goals simp only [List.length_cons]
  all_goals first | omega | (have := rest_le r; omega)

theorem sg_nil (a : Nat) (acc : List S30) : sg [] a acc = (acc, 0, 0) := by rw [sg]
theorem sg_cons (b : UInt8) (r : List UInt8) (a : Nat) (acc : List S30) : sg (b :: r) a acc =
    if bl b = true then sg r (a + 1) acc
    else if pt b = true then (if 16 < (rn r).length + 1 then ([], (a : Int), 80) else sg (rest r) (a + ((rn r).length + 1)) (acc ++ [⟨1, mkB (b :: rn r), (a : Int)⟩]))
    else if b = 63 ∧ 0 < (rn r).length then (if 16 < (rn r).length then ([], (a : Int), 80) else sg (rest r) (a + ((rn r).length + 1)) (acc ++ [⟨2, mkB (rn r), (a : Int)⟩]))
    else if mk b = true then sg r (a + 1) (acc ++ [⟨3, mkB [b], (a : Int)⟩])
    else ([], (a : Int), 80) := by rw [sg]
theorem bl_int (b : UInt8) : bl b = (decide ((b.toNat : Int) = 32) || decide ((b.toNat : Int) = 9) || ((b.toNat : Int) == 10)) :=
  all_bytes (p := fun b => bl b = (decide ((b.toNat : Int) = 32) || decide ((b.toNat : Int) = 9) || ((b.toNat : Int) == 10))) (by decide +kernel) b
theorem drop_rest (l : List UInt8) (i : Nat) (b : UInt8) (r : List UInt8) (h : l.drop i = b :: r) : l.drop (i + ((rn r).length + 1)) = rest r := by
  obtain ⟨_, h2, _⟩ := getD_drop _ _ _ _ h
  rw [rest_drop, ← h2, List.drop_drop, h2]
  congr 1; omega
theorem one_byte (s : ByteArray) (i : Nat) (b : UInt8) (r : List UInt8) (h : (L s).drop i = b :: r) : s.extract i (i + 1) = mkB [b] := by
  apply L_inj
  rw [L_mkB, L_extract, h]
  simp
theorem word_at (s : ByteArray) (i : Nat) (r : List UInt8) (h : (L s).drop i = r) : s.extract i (i + (rn r).length) = mkB (rn r) := by
  apply L_inj
  rw [L_mkB, L_extract, h, show i + (rn r).length - i = (rn r).length from by omega, rn_take]
theorem mkB_size (l : List UInt8) : (mkB l).size = l.length := by rw [← L_length, L_mkB]
theorem nonempty (l : List UInt8) : ((mkB l).toList != ([] : List UInt8)) = decide (0 < l.length) := by
  have : (mkB l).toList = l := by rw [ByteArray.toList_eq]; exact L_mkB l
  rw [this]
  cases l <;> rfl
theorem ite_bool {α : Type} (c d : Prop) [Decidable c] [Decidable d] (e : Bool) (f : Bool → α) : (if c then f true else (if d then f true else f e)) = f (decide c || decide d || e) := by
  by_cases hc : c <;> by_cases hd : d <;> simp [hc, hd]
/-- The program's signs are the law's. -/
theorem signs_l0 (s : ByteArray) (hs : s.size ≤ 4096) (d : Nat) : ∀ (i k : Nat) (acc : List S30), i ≤ s.size → s.size - i ≤ d → acc.length ≤ i → 3 * d + 4200 ≤ k →
    token_Signs.l0 k s acc i = some (sg ((L s).drop i) i acc) := by
  have hl := L_length s
  induction d with
  | zero =>
    intro i k acc hi hd ha hk
    obtain ⟨k, rfl⟩ : ∃ j, k = j + 1 := ⟨k - 1, by omega⟩
    rw [token_Signs.l0, if_neg (by omega), List.drop_of_length_le (by omega), sg_nil]
  | succ d ih =>
    intro i k acc hi hd ha hk
    obtain ⟨k, rfl⟩ : ∃ j, k = j + 1 + 1 + 1 := ⟨k - 3, by omega⟩
    rw [token_Signs.l0]
    rcases hx : (L s).drop i with _ | ⟨b, r⟩
    · have : (L s).length ≤ i := by
        have := congrArg List.length hx
        rw [List.length_drop] at this; simp at this; omega
      rw [if_neg (by omega), sg_nil]
    obtain ⟨h1, h2, h3⟩ := getD_drop _ _ _ _ hx
    have hr : r.length = s.size - i - 1 := by rw [← h2, List.length_drop]; omega
    have hrn := rn_le r
    rw [if_pos (by omega), if_pos (by omega), w64 ((i : Int) + 1) (by omega) (by omega), if_pos (by omega), if_pos (by omega), bt_L, h1]
    rw [ite_bool _ _ _ (fun e => token_Signs.j1 (k + 1 + 1) s acc i (b.toNat : Int) e 3 (s.extract ((i : Int)).toNat ((i : Int) + 1).toNat) i), ← bl_int]
    have e1 : ((i : Int)).toNat = i := by omega
    have e2 : ((i : Int) + 1).toNat = i + 1 := by omega
    rw [e1, e2, one_byte s i b r hx, sg_cons, token_Signs.j1]
    by_cases hb : bl b = true
    · rw [if_pos hb, if_pos hb, w64 _ (by omega) (by omega), show ((i : Int) + 1) = ((i + 1 : Nat) : Int) from rfl, ih (i + 1) _ acc (by omega) (by omega) (by omega) (by omega), h2]
    rw [if_neg hb, if_neg hb, part_byte b _ (by omega), Option.bind_some]
    by_cases hp : pt b = true
    · rw [if_pos hp, if_pos hp, if_pos (by omega), if_pos (by omega), e1]
      have hsz : (s.extract i s.size).size = s.size - i := by rw [ByteArray.size_extract]; omega
      rw [run_f _ (by omega) _ (by omega), L_from, hx, Option.bind_some, rn_cons, if_pos hp, mkB_size, List.length_cons]
      by_cases h16 : 16 < (rn r).length + 1
      · rw [if_pos (by omega), if_pos h16]
      · rw [if_neg (by omega), if_neg h16, if_pos (by omega), w64 _ (by omega) (by omega)]
        rw [show ((i : Int) + (((rn r).length + 1 : Nat) : Int)) = ((i + ((rn r).length + 1) : Nat) : Int) from rfl, ih _ _ _ (by omega) (by omega) (by rw [List.length_append]; simp; omega) (by omega), drop_rest _ _ _ _ hx]
    rw [if_neg hp, if_neg hp]
    have hsz : (s.extract (i + 1) s.size).size = s.size - (i + 1) := by rw [ByteArray.size_extract]; omega
    have tail : token_Signs.j2 (k + 1) s acc i (b.toNat : Int) (decide (b = 63 ∧ 0 < (rn r).length)) 3 (mkB [b]) i = some (if b = 63 ∧ 0 < (rn r).length then (if 16 < (rn r).length then ([], (i : Int), 80) else sg (rest r) (i + ((rn r).length + 1)) (acc ++ [⟨2, mkB (rn r), (i : Int)⟩]))
        else if mk b = true then sg r (i + 1) (acc ++ [⟨3, mkB [b], (i : Int)⟩]) else ([], (i : Int), 80)) := by
      rw [token_Signs.j2]
      by_cases hq : b = 63 ∧ 0 < (rn r).length
      · rw [decide_eq_true hq, if_pos rfl, if_pos hq, w64 ((i : Int) + 1) (by omega) (by omega), if_pos (by omega), if_pos (by omega), e2, run_f _ (by omega) _ (by omega), L_from, h2, Option.bind_some, mkB_size]
        by_cases h16 : 16 < (rn r).length
        · rw [if_pos (by omega), if_pos h16]
        · rw [if_neg (by omega), if_neg h16, if_pos (by omega), w64 (((rn r).length : Int) + 1) (by omega) (by omega), w64 _ (by omega) (by omega)]
          rw [show ((i : Int) + (((rn r).length : Int) + 1)) = ((i + ((rn r).length + 1) : Nat) : Int) from rfl, ih _ _ _ (by omega) (by omega) (by rw [List.length_append]; simp; omega) (by omega), drop_rest _ _ _ _ hx]
      · rw [decide_eq_false hq, if_neg (by decide), if_neg hq, mark_byte, Option.bind_some]
        by_cases hm : mk b = true
        · rw [if_pos hm, if_neg (mark_ge b hm), if_pos hm, mkB_size, if_neg (by simp), if_pos (by omega), w64 _ (by omega) (by omega)]
          rw [show ((i : Int) + 1) = ((i + 1 : Nat) : Int) from rfl, ih _ _ _ (by omega) (by omega) (by rw [List.length_append]; simp; omega) (by omega), h2]
        · rw [if_neg hm, if_pos (by decide), if_neg hm]
    rw [← tail]
    by_cases hq : b = 63
    · subst hq
      rw [if_pos (by rfl), w64 ((i : Int) + 1) (by omega) (by omega), if_pos (by omega), if_pos (by omega), e2, run_f _ (by omega) _ (by omega), L_from, h2, Option.bind_some, nonempty]
      simp
    · have : ¬ ((b.toNat : Int) = 63) := fun e => hq (by
        apply UInt8.toNat_inj.mp
        show b.toNat = 63
        omega)
      rw [if_neg this]
      simp [hq]
theorem signs_f (s : ByteArray) (k : Nat) (hk : 16500 ≤ k) : token_Signs.f k s = some (if 4096 < s.size then ([], 0, 1) else sg (L s) 0 []) := by
  unfold token_Signs.f
  by_cases h : 4096 < s.size
  · rw [if_pos (by omega), if_pos h]
  · rw [if_neg (by omega), if_neg h]
    have := signs_l0 s (by omega) s.size 0 k [] (by omega) (by omega) (by simp) (by omega)
    rw [List.drop_zero] at this
    exact this
/-- The document's signs are the law's. -/
theorem refsigns_l0 (s : ByteArray) (hs : s.size ≤ 4096) (d : Nat) : ∀ (i k : Nat) (acc : List S30), i ≤ s.size → s.size - i ≤ d → acc.length ≤ i → 4 * d + 4200 ≤ k →
    sinewref08_Signs.l0 k s acc i = some (sg ((L s).drop i) i acc) := by
  have hl := L_length s
  induction d with
  | zero =>
    intro i k acc hi hd ha hk
    obtain ⟨k, rfl⟩ : ∃ j, k = j + 1 := ⟨k - 1, by omega⟩
    rw [sinewref08_Signs.l0, if_neg (by omega), List.drop_of_length_le (by omega), sg_nil]
  | succ d ih =>
    intro i k acc hi hd ha hk
    obtain ⟨k, rfl⟩ : ∃ j, k = j + 1 + 1 + 1 + 1 := ⟨k - 4, by omega⟩
    rw [sinewref08_Signs.l0]
    rcases hx : (L s).drop i with _ | ⟨b, r⟩
    · have : (L s).length ≤ i := by
        have := congrArg List.length hx
        rw [List.length_drop] at this; simp at this; omega
      rw [if_neg (by omega), sg_nil]
    obtain ⟨h1, h2, h3⟩ := getD_drop _ _ _ _ hx
    have hr : r.length = s.size - i - 1 := by rw [← h2, List.length_drop]; omega
    have hrn := rn_le r
    rw [if_pos (by omega), if_pos (by omega), bt_L, h1]
    rw [ite_bool _ _ _ (fun e => sinewref08_Signs.j1 (k + 1 + 1 + 1) s acc i (b.toNat : Int) e), ← bl_int]
    have e1 : ((i : Int)).toNat = i := by omega
    have e2 : ((i : Int) + 1).toNat = i + 1 := by omega
    rw [sg_cons, sinewref08_Signs.j1]
    by_cases hb : bl b = true
    · rw [if_pos hb, if_pos hb, w64 _ (by omega) (by omega), show ((i : Int) + 1) = ((i + 1 : Nat) : Int) from rfl, ih (i + 1) _ acc (by omega) (by omega) (by omega) (by omega), h2]
    rw [if_neg hb, if_neg hb, if_pos (by omega), w64 ((i : Int) + 1) (by omega) (by omega), if_pos (by omega), if_pos (by omega), refrun_f s (by omega) i (by omega) _ (by omega), hx, Option.bind_some, rn_cons]
    by_cases hp : pt b = true
    · rw [if_pos hp, if_pos hp, List.length_cons, if_pos (by omega), w64 _ (by omega) (by omega), if_pos (by omega), if_pos (by omega), sinewref08_Signs.j3]
      have e3 : ((i : Int) + (((rn r).length + 1 : Nat) : Int)).toNat = i + ((rn r).length + 1) := by omega
      have e4 : s.extract i (i + ((rn r).length + 1)) = mkB (b :: rn r) := by
        have := word_at s i (b :: r) hx
        rw [rn_cons, if_pos hp, List.length_cons] at this
        exact this
      rw [e1, e3, e4, mkB_size, List.length_cons]
      by_cases h16 : 16 < (rn r).length + 1
      · rw [if_pos (by omega), if_pos h16]
      · rw [if_neg (by omega), if_neg h16, if_pos (by omega), Option.bind_some, if_neg (by decide), w64 _ (by omega) (by omega)]
        rw [show ((i : Int) + (((rn r).length + 1 : Nat) : Int)) = ((i + ((rn r).length + 1) : Nat) : Int) from rfl, ih _ _ _ (by omega) (by omega) (by rw [List.length_append]; simp; omega) (by omega), drop_rest _ _ _ _ hx]
    rw [if_neg hp, if_neg hp, List.length_nil, if_neg (by simp), show ((i : Int) + 1) = ((i + 1 : Nat) : Int) from rfl, refrun_f s (by omega) (i + 1) (by omega) _ (by omega), h2, Option.bind_some]
    have e5 : ((i + 1 : Nat) : Int).toNat = i + 1 := by omega
    rw [e1, e5, one_byte s i b r hx]
    have tail : sinewref08_Signs.j2 (k + 1 + 1) s acc i (b.toNat : Int) ((rn r).length : Int) (decide (b = 63 ∧ 0 < (rn r).length)) 3 (mkB [b]) i = some (if b = 63 ∧ 0 < (rn r).length then (if 16 < (rn r).length then ([], (i : Int), 80) else sg (rest r) (i + ((rn r).length + 1)) (acc ++ [⟨2, mkB (rn r), (i : Int)⟩]))
        else if mk b = true then sg r (i + 1) (acc ++ [⟨3, mkB [b], (i : Int)⟩]) else ([], (i : Int), 80)) := by
      rw [sinewref08_Signs.j2]
      by_cases hq : b = 63 ∧ 0 < (rn r).length
      · rw [decide_eq_true hq, if_pos rfl, if_pos hq, w64 ((i : Int) + 1) (by omega) (by omega), if_pos (by omega), w64 _ (by omega) (by omega), if_pos (by omega), if_pos (by omega), e2]
        have e6 : ((i : Int) + 1 + ((rn r).length : Int)).toNat = i + 1 + (rn r).length := by omega
        rw [e6, word_at s (i + 1) r h2, sinewref08_Signs.j3, mkB_size]
        by_cases h16 : 16 < (rn r).length
        · rw [if_pos (by omega), if_pos h16]
        · rw [if_neg (by omega), if_neg h16, if_pos (by omega), Option.bind_some, if_pos rfl, w64 ((i : Int) + ((rn r).length : Int)) (by omega) (by omega), w64 _ (by omega) (by omega)]
          rw [show ((i : Int) + ((rn r).length : Int) + 1) = ((i + ((rn r).length + 1) : Nat) : Int) from by omega, ih _ _ _ (by omega) (by omega) (by rw [List.length_append]; simp; omega) (by omega), drop_rest _ _ _ _ hx]
      · rw [decide_eq_false hq, if_neg (by decide), if_neg hq, ref_mark_byte, Option.bind_some]
        by_cases hm : mk b = true
        · rw [if_pos hm, if_pos hm, sinewref08_Signs.j3, mkB_size, if_neg (by simp), if_pos (by omega), Option.bind_some, if_neg (by decide), w64 _ (by omega) (by simp; omega)]
          rw [show ((i : Int) + (([b] : List UInt8).length : Int)) = ((i + 1 : Nat) : Int) from rfl, ih _ _ _ (by omega) (by omega) (by rw [List.length_append]; simp; omega) (by omega), h2]
        · rw [if_neg hm, if_neg hm]
    rw [← tail]
    by_cases hq : b = 63
    · subst hq
      rw [if_pos (by rfl)]
      simp
    · have : ¬ ((b.toNat : Int) = 63) := fun e => hq (by
        apply UInt8.toNat_inj.mp
        show b.toNat = 63
        omega)
      rw [if_neg this]
      simp [hq]
theorem refsigns_f (s : ByteArray) (k : Nat) (hk : 21000 ≤ k) : sinewref08_Signs.f k s = some (if 4096 < s.size then ([], 0, 1) else sg (L s) 0 []) := by
  unfold sinewref08_Signs.f
  by_cases h : 4096 < s.size
  · rw [if_pos (by omega), if_pos h]
  · rw [if_neg (by omega), if_neg h]
    have := refsigns_l0 s (by omega) s.size 0 k [] (by omega) (by omega) (by simp) (by omega)
    rw [List.drop_zero] at this
    exact this
end Go.Proofs.Ytfmfgdlnkphoaaa.Hand
