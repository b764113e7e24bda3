/- Proved: for every text of 4 to 2^12 bytes, every place and every other four bytes there, the program tells another sum; elsewhere one fixed sum. No condition. -/
import Derived.Test.YtnpahhlgniaddaaHbpure
import Derived.RegionTactic
import Derived.ChangeAlike
import Derived.BigRegion
namespace Go.Proofs.Ytnpahhlgniaddaa.Hand
set_option linter.unusedVariables false
set_option linter.unusedSimpArgs false
open Go.RowKit Go.Proofs.YtnpahhlgniaddaaW.PrintWords Go.Proofs.YtnpahhlgniaddaaW.PrintLast Go.Proofs.YtnpahhlgniaddaaW.PrintMore Go.Proofs.Ytnpahhlgniaddaa.Px

/-- A row of bytes that may be written. -/
def Bytes (w : World) (g : Nat) (xs : List Int) : Prop := ∀ j, j < xs.length → w.cell? ⟨g, j, none⟩ = some (.int .u8 (xs.getD j 0)) ∧ w.frozen? ⟨g, j, none⟩ = false
theorem Bytes.set {w : World} {g : Nat} {xs : List Int} (h : Bytes w g xs) (p : Nat) (hp : p < xs.length) (v : Int) : Bytes (w.setCell ⟨g, p, none⟩ (.int .u8 v)) g (xs.set p v) := by
  intro j hj
  rw [List.length_set] at hj
  obtain ⟨h1, h2⟩ := h j hj
  obtain ⟨h3, _⟩ := h p hp
  refine ⟨?_, by rw [World.frozen?_setCell]; exact h2⟩
  by_cases e : j = p
  · subst e
    rw [World.cell?_setCell_same _ _ _ h1]
    simp [List.getD, hp]
  · rw [World.cell?_setCell_other _ _ _ _ (by intro e2; injection e2 with _ e3; exact e e3.symm), h1]
    simp [List.getD, List.getElem?_set_ne (Ne.symm e)]
theorem bytes_new (w : World) (s : ByteArray) : Bytes (Lib.bytesWorld w 5 s) w.heap.size (bytesOf s) := by
  intro j hj
  rw [bytesOf_length] at hj
  refine ⟨?_, ?_⟩
  · rw [Lib.bytesWorld_cell w 5 s j hj]
    have h' : j < s.data.toList.length := by rw [data_length]; exact hj
    simp [bytesOf, List.getD_eq_getElem?_getD, List.getElem?_eq_getElem h']
  · have := Lib.bytesWorld_at_new w 5 s
    have hs : s.size ≤ (Lib.bytesCells w 5 s).size := by
      unfold Lib.bytesCells
      rw [Array.size_append, Array.size_map]
      exact Nat.le_add_right _ _
    simp only [World.frozen?, this]
    simp
    omega
theorem Bytes.below {w w1 : World} {g : Nat} {xs : List Int} (h : Bytes w g xs) (hb : Below w.heap.size w w1) : Bytes w1 g xs := by
  intro j hj
  obtain ⟨h1, h2⟩ := h j hj
  have hlt : g < w.heap.size := World.block_lt_of_cell? w _ h1
  exact ⟨(hb.cell (p := ⟨g, j, none⟩) hlt).trans h1, (hb.frozen (p := ⟨g, j, none⟩) hlt).trans h2⟩
theorem Bytes.string {w : World} {g : Nat} {xs : List Int} (h : Bytes w g xs) (cap : Nat) : (convert 25 9 (.slice (some ⟨g, 0, none⟩) xs.length cap)).run Try.prog w = .ok (.string (strOfNums xs)) w := by
  refine run_convert_bytes_arg w 25 5 Try.underlying25 Try.underlying5 g 0 xs.length cap xs rfl (fun i hi => ?_) 9 Try.underlying9
  have := (h i hi).1
  rwa [Nat.zero_add]
set_option maxHeartbeats 1000000 in
set_option maxRecDepth 100000 in
theorem burst_main (s : ByteArray) (x y : Int) (w : World) (h1 : 4 ≤ s.size) (h2 : s.size ≤ 4096) (h3 : Go.bits .and .i64 y 4294967295 ≠ 0) :
    Calls Try.prog 4 #[.string s, .int .i64 x, .int .i64 y] w fun e w' => e = .returned (.bool true) ∧ Below w.heap.size w w' := by
  have H3 := Lib.hid h3
  have c3 : ((Go.bits .and .i64 y 4294967295) == 0) = false := beq_eq_false_iff_ne.mpr h3
  clear h3
  have c1 : decide ((s.size : Int) < 4) = false := by simp; omega
  have c2 : decide (4096 < (s.size : Int)) = false := by simp; omega
  have kb := fun W => print_bytes (P := Try.prog) 9 25 5 Try.underlying9 Try.underlying25 Try.underlying5 s W
  have hx2 := and65535 x
  have hx10 : 0 ≤ x % 65536 := by omega
  have hx11 : x % 65536 ≤ 65535 := by omega
  obtain ⟨x1, hx1⟩ : ∃ z, z = x % 65536 := ⟨_, rfl⟩
  rw [← hx1] at hx2 hx10 hx11
  clear hx1
  obtain ⟨p, hp⟩ : ∃ p : Nat, x1 % ((s.size : Int) - 3) = (p : Int) := ⟨(x1 % ((s.size : Int) - 3)).toNat, by have := Int.emod_nonneg x1 (show (s.size : Int) - 3 ≠ 0 by omega); omega⟩
  have hp1 : p + 4 ≤ s.size := by have := Int.emod_lt_of_pos x1 (show 0 < (s.size : Int) - 3 by omega); omega
  go_enter Try.func4, Try.ntmps4
  go_wp2
  have hz : Below w.heap.size w (Lib.bytesWorld w 5 s) := bytes_below (Below.refl _ _) (Nat.le_refl _) _ _
  have hby : Bytes (Lib.bytesWorld w 5 s) w.heap.size (bytesOf s) := bytes_new w s
  generalize Lib.bytesWorld w 5 s = w1 at hz hby ⊢
  obtain ⟨g, hg⟩ : ∃ g, g = w.heap.size := ⟨_, rfl⟩
  rw [← hg] at hz hby ⊢
  have Hg := Lib.hid hg
  clear kb hg
  go_loopw [9] (fun v9 wr => ∃ i : Nat, i ≤ 4 ∧ v9 = .int .i64 i ∧ Bytes wr g (bx s p y i) ∧ Below g w wr) (fun v9 _ => 4 - (intOf v9).toNat)
  case atStart => exact ⟨0, by omega, rfl, hby, hz⟩
  case round =>
    obtain ⟨i, hi, rfl, hb, hbel⟩ := hrel
    obtain ⟨wo, rfl⟩ : ∃ wo : World, wo = wr := ⟨_, rfl⟩
    have Hb := Lib.hid hb
    clear hb
    have hl := bx_length s p y i
    have HL := Lib.hid hl
    by_cases hlt : i < 4
    · have hc := (Hb.out (p + i) (by omega)).1
      have hf := (Hb.out (p + i) (by omega)).2
      obtain ⟨v, hv⟩ : ∃ v, v = (bx s p y i).getD (p + i) 0 := ⟨_, rfl⟩
      rw [← hv] at hc
      have Hv := Lib.hid hv
      clear hv hl
      go_wp2
      go_region
      go_wp2
      refine ⟨⟨i + 1, by omega, by go_num, ?_, ?_⟩, by simp [intOf]; omega⟩
      · have := Hb.out.set (p + i) (by rw [HL.out]; omega) (Go.bits .xor .u8 v (dby y i))
        rw [Hv.out] at this ⊢
        exact this
      · exact below_drew (hbel.setCell (p := ⟨g, p + i, none⟩) (Nat.le_refl g) _)
    · obtain rfl : i = 4 := by omega
      obtain ⟨xs, hxs⟩ : ∃ xs, xs = bx s p y 4 := ⟨_, rfl⟩
      have hne := burst_ne s p y hp1 H3.out
      rw [← hxs] at hl hne Hb
      have Hxs := Lib.hid hxs
      clear hxs HL
      have hne2 : (sumv s != sumv (strOfNums xs)) = true := bne_iff_ne.mpr hne
      clear hne
      have hz2 := strOfNums_size xs
      go_wp2
      have Hl := Lib.hid hl
      clear hl hby hz hz2
      have HS : Aside0 (Bytes wo.drew g xs ∧ Below g w wo.drew) := ⟨⟨Hb.out, below_drew hbel⟩⟩
      clear Hb hbel
      refine start_ (n := 10) (S := fun w' => Aside0 (Bytes w' g xs ∧ Below g w w')) (ds := []) #[false, false, false, false, false, false, false, false, false, false] (by kernel_rfl) rfl rfl HS (fun hHeld => ?_)
      generalize wo.drew = wc at HS hHeld ⊢
      refine pure_ (i := 0) (N := some 54) (v := ?_) (a' := ?_) #[true, false, false, false, false, false, false, false, false, false] rfl rfl (by kernel_rfl) (fun _ _ _ h => h) (Or.inl ⟨by rfl, ?_⟩) ?_ ?_
      rotate_left
      · intro w'
        go_simp
        with_reducible rfl
      rotate_left
      · simp only [Act.put, List.setIfInBounds_toArray, List.set_cons_zero, List.set_cons_succ, i64_w, i32_w]
        rfl
      refine pure_ (i := 2) (N := some 56) (v := ?_) (a' := ?_) #[true, false, true, false, false, false, false, false, false, false] rfl rfl (by kernel_rfl) (fun _ _ _ h => h) (Or.inl ⟨by rfl, ?_⟩) ?_ ?_
      rotate_left
      · intro w'
        go_simp
        with_reducible rfl
      rotate_left
      · simp only [Act.put, List.setIfInBounds_toArray, List.set_cons_zero, List.set_cons_succ, i64_w, i32_w]
        rfl
      refine take_ (i := 3) (N := some 57) (v := ?_) (a' := ?_) #[true, false, true, true, false, false, false, false, false, false] rfl rfl (by kernel_rfl) (fun _ _ _ h => h) (Or.inl ⟨by rfl, ?_⟩) hHeld ?_ ?_
      rotate_left
      · intro w' hS_
        have hcv_ := hS_.out.1.string (grownCap w s.size 0 5)
        rw [Hl.out] at hcv_
        go_simp
        rfl
      rotate_left
      · simp only [Act.put, List.setIfInBounds_toArray, List.set_cons_zero, List.set_cons_succ, i64_w, i32_w]
        rfl
      refine one_ (i := 1) (N := some 55) #[true, true, true, true, false, false, false, false, false, false] rfl rfl (by kernel_rfl) (by decide) (fun K hK => ?_)
      refine goes_ Try.func9 (by kernel_rfl) rfl #[.string s] (by rfl) rfl rfl (by (try simp only [List.map_toArray, List.map_cons, List.map_nil]); first | done | rfl) ?_
      with_reducible refine (sum_calls s _ (by omega)).mono ?_
      rintro e wn1 ⟨rfl, hb⟩
      refine ⟨_, rfl, ?_⟩
      have HN1 : Aside0 (Bytes wn1 g xs ∧ Below g w wn1) := ⟨⟨HS.out.1.below hb, below_then HS.out.2 (by have := HS.out.2.size; have := Hg.out; omega) hb⟩⟩
      clear HS
      have HS := HN1
      clear HN1 hb
      refine hK.out _ _ HS (fun hHeld => ?_)
      clear hK K
      refine norm_ (a' := ?_) ?_ ?_
      rotate_left
      · show Act.put _ (some 55) _ = _
        simp only [Act.put, List.setIfInBounds_toArray, List.set_cons_zero, List.set_cons_succ, i64_w, i32_w]
        rfl
      refine one_ (i := 4) (N := some 58) #[true, true, true, true, true, false, false, false, false, false] rfl rfl (by kernel_rfl) (by decide) (fun K hK => ?_)
      refine goes_ Try.func9 (by kernel_rfl) rfl #[.string (strOfNums xs)] (by rfl) rfl rfl (by (try simp only [List.map_toArray, List.map_cons, List.map_nil]); first | done | rfl) ?_
      with_reducible refine (sum_calls (strOfNums xs) _ (by rw [strOfNums_size, Hl.out]; omega)).mono ?_
      rintro e wn4 ⟨rfl, hb⟩
      refine ⟨_, rfl, ?_⟩
      have HN4 : Aside0 (Bytes wn4 g xs ∧ Below g w wn4) := ⟨⟨HS.out.1.below hb, below_then HS.out.2 (by have := HS.out.2.size; have := Hg.out; omega) hb⟩⟩
      clear HS
      have HS := HN4
      clear HN4 hb
      refine hK.out _ _ HS (fun hHeld => ?_)
      clear hK K
      refine norm_ (a' := ?_) ?_ ?_
      rotate_left
      · show Act.put _ (some 58) _ = _
        simp only [Act.put, List.setIfInBounds_toArray, List.set_cons_zero, List.set_cons_succ, i64_w, i32_w]
        rfl
      refine pure_ (i := 5) (N := some 59) (v := ?_) (a' := ?_) #[true, true, true, true, true, true, false, false, false, false] rfl rfl (by kernel_rfl) (fun _ _ _ h => h) (Or.inl ⟨by rfl, ?_⟩) ?_ ?_
      rotate_left
      · intro w'
        go_simp
        with_reducible rfl
      rotate_left
      · simp only [Act.put, List.setIfInBounds_toArray, List.set_cons_zero, List.set_cons_succ, i64_w, i32_w]
        rfl
      refine pure_ (i := 6) (N := some 60) (v := ?_) (a' := ?_) #[true, true, true, true, true, true, true, false, false, false] rfl rfl (by kernel_rfl) (fun _ _ _ h => h) (Or.inl ⟨by rfl, ?_⟩) ?_ ?_
      rotate_left
      · intro w'
        go_simp
        with_reducible rfl
      rotate_left
      · simp only [Act.put, List.setIfInBounds_toArray, List.set_cons_zero, List.set_cons_succ, i64_w, i32_w]
        rfl
      refine one_ (i := 7) (N := some 61) #[true, true, true, true, true, true, true, true, false, false] rfl rfl (by kernel_rfl) (by decide) (fun K hK => ?_)
      refine goes_ Try.func8 (by kernel_rfl) rfl #[] (by rfl) rfl rfl (by (try simp only [List.map_toArray, List.map_cons, List.map_nil]); first | done | rfl) ?_
      with_reducible refine (sinewlaw02_awake.calls true _ awake_some).mono ?_
      rintro e wn7 ⟨rfl, hb⟩
      refine ⟨_, rfl, ?_⟩
      have HN7 : Aside0 (Bytes wn7 g xs ∧ Below g w wn7) := ⟨⟨HS.out.1.below hb, below_then HS.out.2 (by have := HS.out.2.size; have := Hg.out; omega) hb⟩⟩
      clear HS
      have HS := HN7
      clear HN7 hb
      refine hK.out _ _ HS (fun hHeld => ?_)
      clear hK K
      refine norm_ (a' := ?_) ?_ ?_
      rotate_left
      · show Act.put _ (some 61) _ = _
        simp only [Act.put, List.setIfInBounds_toArray, List.set_cons_zero, List.set_cons_succ, i64_w, i32_w]
        rfl
      refine pure_ (i := 8) (N := some 62) (v := ?_) (a' := ?_) #[true, true, true, true, true, true, true, true, true, false] rfl rfl (by kernel_rfl) (fun _ _ _ h => h) (Or.inl ⟨by rfl, ?_⟩) ?_ ?_
      rotate_left
      · intro w'
        go_simp
        with_reducible rfl
      rotate_left
      · simp only [Act.put, List.setIfInBounds_toArray, List.set_cons_zero, List.set_cons_succ, i64_w, i32_w]
        rfl
      refine pure_ (i := 9) (N := some 6) (v := ?_) (a' := ?_) #[true, true, true, true, true, true, true, true, true, true] rfl rfl (by kernel_rfl) (fun _ _ _ h => h) (Or.inl ⟨by rfl, ?_⟩) ?_ ?_
      rotate_left
      · intro w'
        go_simp
        with_reducible rfl
      rotate_left
      · simp only [Act.put, List.setIfInBounds_toArray, List.set_cons_zero, List.set_cons_succ, i64_w, i32_w]
        rfl
      refine done_ (by kernel_rfl) ?_
      go_wp2
      go_ret
      refine ⟨rfl, ?_⟩
      rw [← Hg.out]
      exact HS.out.2
set_option maxHeartbeats 1000000 in
set_option maxRecDepth 100000 in
theorem burst_short (s : ByteArray) (x y : Int) (w : World) (h : s.size < 4 ∨ 4096 < s.size ∨ Go.bits .and .i64 y 4294967295 = 0) :
    Calls Try.prog 4 #[.string s, .int .i64 x, .int .i64 y] w fun e w' => e = .returned (.bool true) ∧ Below w.heap.size w w' := by
  by_cases h1 : s.size < 4
  · have c1 : decide ((s.size : Int) < 4) = true := by simp; omega
    clear h
    go_enter Try.func4, Try.ntmps4
    go_wp2_with (go_at_call 8; (with_reducible refine (sinewlaw02_awake.calls true _ awake_some).mono ?_); rintro e w1 ⟨rfl, hb⟩)
    go_ret
    exact ⟨rfl, hb⟩
  · have c1 : decide ((s.size : Int) < 4) = false := by simp; omega
    by_cases h2 : 4096 < s.size
    · have c2 : decide (4096 < (s.size : Int)) = true := by simp; omega
      clear h
      go_enter Try.func4, Try.ntmps4
      go_wp2_with (go_at_call 8; (with_reducible refine (sinewlaw02_awake.calls true _ awake_some).mono ?_); rintro e w1 ⟨rfl, hb⟩)
      go_ret
      exact ⟨rfl, hb⟩
    · have c2 : decide (4096 < (s.size : Int)) = false := by simp; omega
      have c3 : ((Go.bits .and .i64 y 4294967295) == 0) = true := beq_iff_eq.mpr (by omega)
      clear h
      go_enter Try.func4, Try.ntmps4
      go_wp2_with (go_at_call 8; (with_reducible refine (sinewlaw02_awake.calls true _ awake_some).mono ?_); rintro e w1 ⟨rfl, hb⟩)
      go_ret
      exact ⟨rfl, hb⟩
theorem burst_calls (s : ByteArray) (x y : Int) (w : World) (_h0 : s.size ≤ 140737488351232) (_h1 : (Lit.int .i64 x).wf = true) (_h2 : (Lit.int .i64 y).wf = true) :
    Calls Try.prog 4 #[.string s, .int .i64 x, .int .i64 y] w fun e w' => e = .returned (.bool true) ∧ Below w.heap.size w w' := by
  by_cases h : s.size < 4 ∨ 4096 < s.size ∨ Go.bits .and .i64 y 4294967295 = 0
  · exact burst_short s x y w h
  · exact burst_main s x y w (by omega) (by omega) (by omega)
end Go.Proofs.Ytnpahhlgniaddaa.Hand
