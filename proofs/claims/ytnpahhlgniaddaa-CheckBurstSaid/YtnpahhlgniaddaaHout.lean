import Derived.Test.YtnpahhlgniaddaaProg
import Derived.Test.YtnpahhlgniaddaaWMore
import Derived.WalkLawsBesides
import Derived.Lib.Hide
import Derived.Laws.CopyOwn
namespace Go.Proofs.Ytnpahhlgniaddaa.Hand
open Go.RowKit Go.Proofs.YtnpahhlgniaddaaW.PrintWords Go.Proofs.YtnpahhlgniaddaaW.PrintLast Go.Proofs.YtnpahhlgniaddaaW.PrintMore

/-! check.outs: what each four highest bits leave when they are shifted out -/
def sh1 (n : Int) : Int := bits BinOp.xor IntKind.u32 (n * 2 % 4294967296) (n / 2147483648 * 79764919 % 4294967296)
def shN : Nat → Int → Int
  | 0, n => n
  | j + 1, n => sh1 (shN j n)
/-- One cell of the table. -/
def tv (i : Nat) : Int := shN 4 ((i : Int) * 268435456)
def tabL (k : Nat) : List Value := (List.range 16).map fun i => .int .u32 (if i < k then tv i else 0)
def tabB (k : Nat) : Array Value := (tabL k).toArray
theorem tab_size (k : Nat) : (tabB k).size = 16 := by simp [tabB, tabL]
theorem tab_at (k i : Nat) (h : i < 16) : (tabB k)[i]? = some (.int .u32 (if i < k then tv i else 0)) := by
  simp [tabB, tabL, h]
theorem tab_set (k : Nat) (h : k < 16) : (tabB k).setIfInBounds k (.int .u32 (tv k)) = tabB (k + 1) := by
  apply Array.ext_getElem?
  intro i
  rw [Array.getElem?_setIfInBounds]
  by_cases hi : i < 16
  · rw [tab_at _ _ hi, tab_at _ _ hi]
    by_cases e : k = i
    · subst e; simp [tab_size, h]
    · rw [if_neg e]
      have : (i < k) = (i < k + 1) := propext ⟨fun h => by omega, fun h => by omega⟩
      simp [this]
  · have h1 : (tabB k)[i]? = none := by rw [Array.getElem?_eq_none]; rw [tab_size]; omega
    have h2 : (tabB (k + 1))[i]? = none := by rw [Array.getElem?_eq_none]; rw [tab_size]; omega
    rw [h1, h2]
    split
    · rw [if_neg]; rw [tab_size]; omega
    · rfl
theorem tab_one (k : Nat) : (tabB k).all (·.oneCell') = true := by
  simp only [tabB, List.all_toArray, tabL, List.all_map, List.all_eq_true]
  intro i _
  rfl
theorem tab_zero : tabB 0 = #[.int .u32 0, .int .u32 0, .int .u32 0, .int .u32 0, .int .u32 0, .int .u32 0, .int .u32 0, .int .u32 0, .int .u32 0, .int .u32 0, .int .u32 0, .int .u32 0, .int .u32 0, .int .u32 0, .int .u32 0, .int .u32 0] := by
  simp [tabB, tabL, List.range_succ]

set_option maxHeartbeats 1000000 in
set_option maxRecDepth 100000 in
theorem outs_calls (w : World) :
    Calls Try.prog 14 #[] w fun e w' => e = .returned (.agg (tabB 16)) ∧ Below w.heap.size w w' := by
  have hi33 : (Try.prog.info? 33).map (·.size) = some 16 := by kernel_rfl
  go_enter Try.func14, Try.ntmps14
  go_wp2
  go_loopw [5] (fun v5 wr => ∃ k : Nat, k ≤ 16 ∧ v5 = .int .i64 k ∧ wr.heap[w.heap.size]? = some (.cells (tabB 0) 33 (0,0)) ∧ wr.heap[w.heap.size+1]? = some (.cells (tabB k) 33 (0,0)) ∧ Below w.heap.size w wr) (fun v5 _ => 16 - (intOf v5).toNat)
  case atStart =>
    refine ⟨0, by omega, rfl, ?_, ?_, below_alloc (below_alloc (Below.refl _ _) _) _⟩
    · rw [tab_zero]; exact heap_alloc2_old _ _ _
    · rw [tab_zero]; exact heap_alloc2_new _ _ _
  case round =>
    obtain ⟨k, hk, rfl, hb0, hb1, hbel⟩ := hrel
    obtain ⟨wo, rfl⟩ : ∃ wo : World, wo = wr := ⟨_, rfl⟩
    have Hb0 := Lib.hid hb0
    have Hb1 := Lib.hid hb1
    clear hb0 hb1
    by_cases hlt : k < 16
    · go_wp2
      go_loop [3, 11] (fun v3 v11 => ∃ j : Nat, j ≤ 4 ∧ v11 = .int .i64 j ∧ v3 = .int .u32 (shN j ((k : Int) * 268435456))) (fun _ v11 => 4 - (intOf v11).toNat)
      case atStart => exact ⟨0, by omega, rfl, rfl⟩
      case round =>
        obtain ⟨j, hj, rfl, rfl⟩ := hrel
        by_cases hjlt : j < 4
        · go_wp2
          go_round
          case rel => exact ⟨j + 1, by omega, by go_num, rfl⟩
          case measure => simp [intOf]; omega
        · have hv : wo.cell? ⟨w.heap.size + 1, k, none⟩ = some (.int .u32 0) := by
            rw [blk_cell Hb1.out, tab_at _ _ hlt, if_neg (Nat.lt_irrefl _)]
          have hfz : wo.frozen? ⟨w.heap.size + 1, k, none⟩ = false := blk_frozen Hb1.out _
          go_wp2
          obtain rfl : j = 4 := by omega
          have hfar := blk_far Hb0.out (p := ⟨w.heap.size + 1, k, none⟩) (by simp) (.int .u32 (tv k))
          have hset := blk_set Hb1.out k (.int .u32 (tv k))
          rw [tab_set k hlt] at hset
          exact ⟨⟨k + 1, by omega, by go_num, hfar, hset, hbel.setCell (by simp) _⟩, by simp [intOf]; omega⟩
    · obtain rfl : k = 16 := by omega
      have hb0 := Hb0.out
      have hb1 := Hb1.out
      clear Hb0 Hb1
      go_wp2_with (first
        | (refine wpList_load_row rfl 33 _ rfl (w.heap.size+1) rfl 33 (tabB 16) (0,0) _ hb1 Try.underlying33 rfl (by rw [tab_size]; exact hi33) ?_)
        | (refine wpList_store_row rfl 33 _ _ rfl w.heap.size (tabB 16) rfl rfl 33 (tabB 0) hb0 (by rw [tab_size]; exact hi33) (by rw [tab_size, tab_size]) (tab_one _) ?_))
      exact bodyPost_ret (results_cell_row rfl _ _ w.heap.size 33 (tabB 16) (0,0) _ rfl (setRow_heap _ _ _ _ _ _ hb0) Try.underlying33 rfl (by rw [tab_size]; exact hi33)) rfl ⟨rfl, below_setRow hbel (Nat.le_refl _) _⟩
end Go.Proofs.Ytnpahhlgniaddaa.Hand
