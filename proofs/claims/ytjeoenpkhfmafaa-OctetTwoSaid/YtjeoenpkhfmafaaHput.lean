import Derived.Test.YtjeoenpkhfmafaaProg
import Derived.Test.YtjeoenpkhfmafaaWMore
import Derived.WalkLawsBesides
import Derived.Lib.Hide
import Derived.Laws.CopyOwn
/- octet.PutNum: a number's bytes, by a walk. -/
namespace Go.Proofs.Ytjeoenpkhfmafaa.Hand
open Go.RowKit Go.Proofs.YtjeoenpkhfmafaaW.PrintWords Go.Proofs.YtjeoenpkhfmafaaW.PrintLast Go.Proofs.YtjeoenpkhfmafaaW.PrintMore
set_option linter.unusedVariables false
set_option linter.unusedSimpArgs false

/-- The j lowest digits, the highest of them first. -/
def low (n : Nat) : Nat → List Int
  | 0 => []
  | j + 1 => ((n / 256 ^ j % 256 : Nat) : Int) :: low n j
theorem low_length (n : Nat) : ∀ j, (low n j).length = j
  | 0 => rfl
  | j + 1 => by show (low n j).length + 1 = _; rw [low_length n j]
/-- How many digits. -/
def nl : Nat → Nat → Nat
  | 0, _ => 0
  | k + 1, n => if n = 0 then 0 else nl k (n / 256) + 1
theorem nl_zero : ∀ k, nl k 0 = 0
  | 0 => rfl
  | k + 1 => rfl
theorem nl_le : ∀ k n, nl k n ≤ k
  | 0, _ => Nat.le_refl _
  | k + 1, n => by
    unfold nl
    split
    · omega
    · have := nl_le k (n / 256)
      omega
def nlen (n : Nat) : Nat := nl 8 n
/-- A number's bytes. -/
def nbytes (n : Nat) : List Int := (nlen n : Int) :: low n (nlen n)
/-- The array behind j rounds. -/
def pbL (n j : Nat) : List Int := List.replicate (9 - j) 0 ++ low n j
def pbB (l : List Int) : Array Value := (nums .u8 l).toArray
theorem pbL_length (n j : Nat) (h : j ≤ 9) : (pbL n j).length = 9 := by
  unfold pbL
  rw [List.length_append, List.length_replicate, low_length]
  omega
theorem pbL_set (n j : Nat) (h : j ≤ 8) (v : Int) : (pbL n j).set (8 - j) v = List.replicate (8 - j) 0 ++ (v :: low n j) := by
  unfold pbL
  rw [show 9 - j = (8 - j) + 1 from by omega, List.replicate_succ', List.append_assoc, List.set_append_right _ _ (by simp)]
  simp
theorem pbL_step (n j : Nat) (h : j ≤ 8) : (pbL n j).set (8 - j) ((n / 256 ^ j % 256 : Nat) : Int) = pbL n (j + 1) := by
  rw [pbL_set n j h]
  unfold pbL
  rw [show 9 - (j + 1) = 8 - j from by omega]
  rfl
theorem pbB_set (l : List Int) (i : Nat) (v : Int) : (pbB l).setIfInBounds i (.int .u8 v) = pbB (l.set i v) := by
  unfold pbB nums
  rw [List.map_set, List.setIfInBounds_toArray]
theorem pbB_at (l : List Int) (i : Nat) (h : i < l.length) : (pbB l)[i]? = some (.int .u8 (l.getD i 0)) := by
  simp [pbB, nums, List.getElem?_eq_getElem h, List.getD, h]
theorem pbB_zero (n : Nat) : pbB (pbL n 0) = #[.int .u8 0, .int .u8 0, .int .u8 0, .int .u8 0, .int .u8 0, .int .u8 0, .int .u8 0, .int .u8 0, .int .u8 0] := by
  simp [pbB, pbL, nums, low, List.replicate]

set_option maxHeartbeats 1000000 in
set_option maxRecDepth 100000 in
theorem putnum_neg (x : Int) (w : World) (h : x < 0) :
    Calls Try.prog 12 #[.int .i64 x] w fun e w' => e = .returned (.tuple #[.string ⟨#[]⟩, .int .i64 1]) ∧ Below w.heap.size w w' := by
  go_enter Try.func12, Try.ntmps12
  go_wp2
  go_ret2
  exact ⟨rfl, Below.refl _ _⟩
set_option maxHeartbeats 1000000 in
set_option maxRecDepth 100000 in
theorem putnum_calls (n : Nat) (w : World) (h : n < 9223372036854775808) :
    Calls Try.prog 12 #[.int .i64 n] w fun e w' => e = .returned (.tuple #[.string (strOfNums (nbytes n)), .int .i64 0]) ∧ Below w.heap.size w w' := by
  go_enter Try.func12, Try.ntmps12
  go_wp2
  have hb : (w.alloc (.cells (pbB (pbL n 0)) 43)).heap[w.heap.size]? = some (.cells (pbB (pbL n 0)) 43 (0, 0)) := heap_alloc_new _ _
  rw [pbB_zero] at hb
  rw [← pbB_zero n] at hb
  have hw0 : Below w.heap.size w (w.alloc (.cells (pbB (pbL n 0)) 43)) := below_alloc (Below.refl _ _) _
  rw [← pbB_zero n]
  generalize w.alloc (.cells (pbB (pbL n 0)) 43) = w1 at hb hw0 ⊢
  obtain ⟨g, hg⟩ : ∃ g, g = w.heap.size := ⟨_, rfl⟩
  rw [← hg] at hb hw0 ⊢
  have Hg := Lib.hid hg
  clear hg
  go_loopw [0, 5] (fun v0 v5 wr => ∃ j a m : Nat, j ≤ 8 ∧ a + j = 9 ∧ v5 = .int .i64 a ∧ v0 = .int .i64 m ∧ Hid (m = n / 256 ^ j) ∧ Hid (nlen n = j + nl (8 - j) m) ∧ wr.heap[g]? = some (.cells (pbB (pbL n j)) 43 (0, 0)) ∧ Below g w wr) (fun v0 _ _ => (intOf v0).toNat)
  case atStart => exact ⟨0, 9, n, by omega, rfl, rfl, rfl, Lib.hid (by simp), Lib.hid (by rw [Nat.zero_add]; rfl), hb, hw0⟩
  case round =>
    obtain ⟨j, a, m, hj, ha, rfl, rfl, Hm, Hl, hbr, hbel⟩ := hrel
    obtain ⟨wo, rfl⟩ : ∃ wo : World, wo = wr := ⟨_, rfl⟩
    have hm2 : m ≤ n := by have := Hm.out; rw [this]; exact Nat.div_le_self _ _
    have Hb := Lib.hid hbr
    clear hbr
    by_cases hlt : 0 < m
    · have hj8 : j < 8 := by
        rcases Nat.lt_or_ge j 8 with h1 | h1
        · exact h1
        · exfalso
          obtain rfl : j = 8 := by omega
          have := Hm.out
          rw [Nat.div_eq_of_lt (by omega)] at this
          omega
      have hv : wo.cell? ⟨g, a - 1, none⟩ = some (.int .u8 ((pbL n j).getD (a - 1) 0)) := by
        rw [blk_cell Hb.out, pbB_at _ _ (by rw [pbL_length n j (by omega)]; omega)]
      obtain ⟨c, hc⟩ : ∃ c, c = (pbL n j).getD (a - 1) 0 := ⟨_, rfl⟩
      rw [← hc] at hv
      clear hc
      have hf : wo.frozen? ⟨g, a - 1, none⟩ = false := blk_frozen Hb.out _
      have Ha := Lib.hid ha
      have ha1 : 2 ≤ a := by omega
      have ha2 : a ≤ 9 := by omega
      clear ha
      go_wp2
      have hset := blk_set Hb.out (a - 1) (.int .u8 ((m : Int) % 256))
      have e1 : a - 1 = 8 - j := by have := Ha.out; omega
      have e2 : ((m : Int) % 256) = ((n / 256 ^ j % 256 : Nat) : Int) := by rw [Hm.out]; omega
      rw [pbB_set, e2, e1, pbL_step n j (by omega), ← e1, ← e2] at hset
      refine ⟨⟨j + 1, a - 1, m / 256, by omega, by have := Ha.out; omega, by go_num, by go_num, Lib.hid ?_, Lib.hid ?_, hset, hbel.setCell (p := ⟨g, a - 1, none⟩) (Nat.le_refl g) _⟩, by simp [intOf]; omega⟩
      · rw [Hm.out, Nat.div_div_eq_div_mul, ← Nat.pow_succ]
      · have h1 := Hl.out
        rw [show 8 - j = (8 - (j + 1)) + 1 from by omega] at h1
        unfold nl at h1
        rw [if_neg (by omega)] at h1
        omega
    · obtain rfl : m = 0 := by omega
      have hl : nlen n = j := by have := Hl.out; rw [nl_zero] at this; omega
      have HL := Lib.hid hl
      clear hl
      have hv : wo.cell? ⟨g, a - 1, none⟩ = some (.int .u8 ((pbL n j).getD (a - 1) 0)) := by
        rw [blk_cell Hb.out, pbB_at _ _ (by rw [pbL_length n j (by omega)]; omega)]
      obtain ⟨c, hc⟩ : ∃ c, c = (pbL n j).getD (a - 1) 0 := ⟨_, rfl⟩
      rw [← hc] at hv
      clear hc
      have hf : wo.frozen? ⟨g, a - 1, none⟩ = false := blk_frozen Hb.out _
      have Ha := Lib.hid ha
      have ha1 : 1 ≤ a := by omega
      have ha2 : a ≤ 9 := by omega
      clear ha
      have hal : Try.prog.arrayLen 43 = 9 := by kernel_rfl
      have hel : Try.prog.elem 43 = 5 := by kernel_rfl
      have hsz : ∀ W, (sizeOf 5).run Try.prog W = .ok 1 W := fun W => by kernel_rfl
      have hsl : ∀ W, (Instr.sliceAt 43 (.pointer (some ⟨g, 0, none⟩)) (some (.int .i64 ((a : Int) - 1))) none none).run Try.prog W = .ok (.slice (some ⟨g, a - 1, none⟩) (10 - a) (10 - a)) W := fun W => by
        rw [run_sliceAt_array_l W 43 ⟨g, 0, none⟩ (by rw [hal, hel]; exact Try.underlying43) .i64 ((a : Int) - 1) (by omega) (by rw [hal]; omega), hel, hsz, hal]
        have e3 : ((a : Int) - 1).toNat = a - 1 := by omega
        simp only [Result.andThen_ok, slicedAt, e3, Nat.mul_one]
        rw [if_neg (by omega), add_plain, show 9 - (a - 1) = 10 - a from by omega]
      have hset := blk_set Hb.out (a - 1) (.int .u8 ((9 : Int) - ((a : Int) - 1) - 1))
      have e1 : a - 1 = 8 - j := by have := Ha.out; omega
      have e2 : ((9 : Int) - ((a : Int) - 1) - 1) = (nlen n : Int) := by have := Ha.out; have := HL.out; omega
      rw [pbB_set, e1, pbL_set n j hj, e2, ← e1, ← e2] at hset
      have hcv := run_convert_bytes_arg (P := Try.prog) (wo.setCell ⟨g, a - 1, none⟩ (.int .u8 ((9 : Int) - ((a : Int) - 1) - 1))) 45 5 Try.underlying45 Try.underlying5 g (a - 1) (10 - a) (10 - a) (nbytes n) (by unfold nbytes; rw [List.length_cons, low_length, HL.out]; have := Ha.out; omega) (fun i hi => by
        have := Ha.out
        rw [blk_cell hset, pbB_at _ _ (by rw [List.length_append, List.length_replicate, List.length_cons, low_length]; omega)]
        congr 2
        unfold nbytes
        rw [HL.out, e2, HL.out]
        simp only [List.getD_eq_getElem?_getD]
        rw [List.getElem?_append_right (by rw [List.length_replicate]; omega), List.length_replicate, show a - 1 + i - (a - 1) = i from by omega]) 9 Try.underlying9
      have hbw : Below g w (wo.setCell ⟨g, a - 1, none⟩ (.int .u8 ((9 : Int) - ((a : Int) - 1) - 1))) := hbel.setCell (p := ⟨g, a - 1, none⟩) (Nat.le_refl g) _
      have Hbw := Lib.hid hbw
      clear hset hal hel hsz e1 e2 hbw
      go_wp2
      go_ret2
      refine ⟨rfl, ?_⟩
      rw [← Hg.out]
      exact Hbw.out
/-- octet.PutNum as a function. -/
def octet_PutNum.f (a0 : Int) : Option (ByteArray × Int) := if a0 < 0 then some (⟨#[]⟩, 1) else if a0 < 9223372036854775808 then some (strOfNums (nbytes a0.toNat), 0) else none
theorem octet_PutNum.calls (a0 : Int) (r1 : ByteArray) (r2 : Int) (w : World) (h : octet_PutNum.f a0 = some (r1, r2)) :
    Calls Try.prog 12 #[.int .i64 a0] w fun e w' => e = .returned (.tuple #[.string r1, .int .i64 r2]) ∧ Below w.heap.size w w' := by
  unfold octet_PutNum.f at h
  split at h
  · rename_i h0
    obtain ⟨rfl, rfl⟩ := Prod.mk.inj (Option.some.inj h)
    exact putnum_neg a0 w h0
  · split at h
    · rename_i h0 h1
      obtain ⟨rfl, rfl⟩ := Prod.mk.inj (Option.some.inj h)
      obtain ⟨n, rfl⟩ := Int.eq_ofNat_of_zero_le (show 0 ≤ a0 by omega)
      exact putnum_calls n w (by omega)
    · cases h
end Go.Proofs.Ytjeoenpkhfmafaa.Hand
