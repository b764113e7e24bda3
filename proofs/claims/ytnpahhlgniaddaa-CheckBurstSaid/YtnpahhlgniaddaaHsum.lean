import Derived.Test.YtnpahhlgniaddaaHout
import Derived.Laws.BitsAllLaws
namespace Go.Proofs.Ytnpahhlgniaddaa.Hand
open Go.RowKit Go.Proofs.YtnpahhlgniaddaaW.PrintWords Go.Proofs.YtnpahhlgniaddaaW.PrintLast Go.Proofs.YtnpahhlgniaddaaW.PrintMore

theorem xor32_range (a b : Int) (h1 : 0 ≤ a) (h2 : a < 4294967296) (h3 : 0 ≤ b) (h4 : b < 4294967296) : 0 ≤ bits .xor .u32 a b ∧ bits .xor .u32 a b < 4294967296 := by
  rw [u32_xor a b h1 h2 h3 h4]
  refine ⟨by omega, ?_⟩
  have := Nat.xor_lt_two_pow (x := a.toNat) (y := b.toNat) (n := 32) (by omega) (by omega)
  omega
theorem sh1_range (n : Int) (_h1 : 0 ≤ n) (_h2 : n < 4294967296) : 0 ≤ sh1 n ∧ sh1 n < 4294967296 :=
  xor32_range _ _ (by omega) (by omega) (by omega) (by omega)
theorem shN_range (n : Int) (h1 : 0 ≤ n) (h2 : n < 4294967296) : ∀ j, 0 ≤ shN j n ∧ shN j n < 4294967296
  | 0 => ⟨h1, h2⟩
  | j + 1 => sh1_range _ (shN_range n h1 h2 j).1 (shN_range n h1 h2 j).2
theorem tv_range (i : Nat) (h : i < 16) : 0 ≤ tv i ∧ tv i < 4294967296 := shN_range _ (by omega) (by omega) 4
/-- Four bits go out. -/
def nib (n : Int) : Int := bits .xor .u32 (n * 16 % 4294967296) (tv (n / 268435456).toNat)
theorem nib_range (n : Int) (h1 : 0 ≤ n) (h2 : n < 4294967296) : 0 ≤ nib n ∧ nib n < 4294967296 := by
  have ht := tv_range (n / 268435456).toNat (by omega)
  exact xor32_range _ _ (by omega) (by omega) ht.1 ht.2
/-- A byte comes in. -/
def inb (n b : Int) : Int := bits .xor .u32 n (b * 16777216)
theorem inb_range (n b : Int) (h1 : 0 ≤ n) (h2 : n < 4294967296) (h3 : 0 ≤ b) (h4 : b ≤ 255) : 0 ≤ inb n b ∧ inb n b < 4294967296 :=
  xor32_range _ _ h1 h2 (by omega) (by omega)
def crc (s : ByteArray) : Nat → Int
  | 0 => 4294967295
  | k + 1 => nib (nib (inb (crc s k) (bt s k)))
theorem crc_range (s : ByteArray) : ∀ k, 0 ≤ crc s k ∧ crc s k < 4294967296
  | 0 => ⟨by unfold crc; decide, by unfold crc; decide⟩
  | k + 1 => by
    have h := crc_range s k
    have hb := bt_range s k
    have h1 := inb_range _ _ h.1 h.2 hb.1 hb.2
    have h2 := nib_range _ h1.1 h1.2
    exact nib_range _ h2.1 h2.2
theorem wrap64_of (x : Int) (h : 0 ≤ x ∧ x < 4294967296) : wrap64 x = x := by
  unfold wrap64
  omega
/-- What check.Sum answers. -/
def sumv (s : ByteArray) : Int := bits .xor .u32 4294967295 (crc s s.size)
set_option maxHeartbeats 1000000 in
set_option maxRecDepth 100000 in
theorem sum_calls (s : ByteArray) (w : World) (hs : s.size ≤ 140737488351232) :
    Calls Try.prog 9 #[.string s] w fun e w' => e = .returned (.int .i64 (sumv s)) ∧ Below w.heap.size w w' := by
  have hi33 : (Try.prog.info? 33).map (·.size) = some 16 := by kernel_rfl
  go_enter Try.func9, Try.ntmps9
  go_wp2_with fail
  refine (outs_calls _).mono ?_
  rintro e w1 ⟨rfl, hb⟩
  go_wp2_with (refine wpList_store_row rfl 33 _ _ rfl w1.heap.size (tabB 16) rfl rfl 33 (tabB 0) (by rw [tab_zero]; exact heap_alloc_new _ _) (by rw [tab_size]; exact hi33) (by rw [tab_size, tab_size]) (tab_one _) ?_)
  obtain ⟨w2, hw2⟩ : ∃ w2, w2 = ((w1.alloc (.cells #[.int .u32 0, .int .u32 0, .int .u32 0, .int .u32 0, .int .u32 0, .int .u32 0, .int .u32 0, .int .u32 0, .int .u32 0, .int .u32 0, .int .u32 0, .int .u32 0, .int .u32 0, .int .u32 0, .int .u32 0, .int .u32 0] 33)).setRow w1.heap.size (tabB 16)) := ⟨_, rfl⟩
  rw [← hw2]
  obtain ⟨g, hg⟩ : ∃ g, g = w1.heap.size := ⟨_, rfl⟩
  rw [← hg]
  have hblk : w2.heap[g]? = some (.cells (tabB 16) 33 (0,0)) := by
    rw [hw2, hg]
    exact setRow_heap _ _ _ _ _ _ (heap_alloc_new _ _)
  have hbel : Below w.heap.size w w2 := by
    rw [hw2]
    exact below_setRow (below_alloc hb _) hb.size _
  have Hc : Hid (∀ i, i < 16 → w2.cell? ⟨g, i, none⟩ = some (.int .u32 (tv i))) := Lib.hid (fun i hi => by rw [blk_cell hblk, tab_at _ _ hi, if_pos hi])
  clear hw2 hg hblk
  go_loop [4, 9] (fun v4 v9 => ∃ k : Nat, k ≤ s.size ∧ v9 = .int .i64 k ∧ v4 = .int .u32 (crc s k)) (fun _ v9 => s.size - (intOf v9).toNat)
  case atStart => exact ⟨0, by omega, rfl, rfl⟩
  case round =>
    obtain ⟨k, hk, rfl, rfl⟩ := hrel
    by_cases hlt : k < s.size
    · obtain ⟨n, hn⟩ : ∃ n, n = crc s k := ⟨_, rfl⟩
      have hn0 := (crc_range s k).1
      have hn1 := (crc_range s k).2
      rw [← hn] at hn0 hn1 ⊢
      obtain ⟨b, hbe⟩ : ∃ b, b = bt s k := ⟨_, rfl⟩
      have hbt : ∀ h : k < s.size, ((s[k]'h).toNat : Int) = b := fun h => by rw [hbe]; exact bt_at s k h
      have hb0 : 0 ≤ b := by rw [hbe]; exact (bt_range s k).1
      have hb1 : b ≤ 255 := by rw [hbe]; exact (bt_range s k).2
      have HbE := Lib.hid hbe
      have Hn := Lib.hid hn
      clear hn hbe
      have hx0 := (inb_range n b hn0 hn1 hb0 hb1).1
      have hx1 := (inb_range n b hn0 hn1 hb0 hb1).2
      obtain ⟨t1, ht1⟩ : ∃ t1, t1 = tv (inb n b / 268435456).toNat := ⟨_, rfl⟩
      have hc1 := Hc.out (inb n b / 268435456).toNat (by omega)
      have hy0 := (nib_range _ hx0 hx1).1
      have hy1 := (nib_range _ hx0 hx1).2
      obtain ⟨t2, ht2⟩ : ∃ t2, t2 = tv (nib (inb n b) / 268435456).toNat := ⟨_, rfl⟩
      have hc2 := Hc.out (nib (inb n b) / 268435456).toNat (by omega)
      have hfin : crc s (k + 1) = bits .xor .u32 (nib (inb n b) * 16 % 4294967296) t2 := by
        show nib (nib (inb (crc s k) (bt s k))) = _
        rw [← Hn.out, ← HbE.out, ht2]
        rfl
      rw [← ht1] at hc1
      rw [← ht2] at hc2
      have Hfin := Lib.hid hfin
      clear hfin ht2
      have ey : nib (inb n b) = bits .xor .u32 (inb n b * 16 % 4294967296) t1 := by rw [ht1]; rfl
      rw [ey] at hc2 hy0 hy1 Hfin
      clear ey ht1
      unfold inb at *
      go_wp2
      exact ⟨⟨k + 1, by omega, by go_num, by rw [Hfin.out]⟩, by simp [intOf]; omega⟩
    · obtain rfl : k = s.size := by omega
      obtain ⟨n, hn⟩ : ∃ n, n = crc s s.size := ⟨_, rfl⟩
      have hn0 := (crc_range s s.size).1
      have hn1 := (crc_range s s.size).2
      rw [← hn] at hn0 hn1 ⊢
      have Hn := Lib.hid hn
      clear hn
      go_wp2
      go_ret
      have hm : IntKind.u32.max = 4294967295 := by decide
      have hr := xor32_range 4294967295 n (by decide) (by decide) hn0 hn1
      have hv : wrap64 (bits BinOp.xor IntKind.u32 IntKind.u32.max n) = sumv s := by
        rw [hm, wrap64_of _ hr, Hn.out]
        rfl
      refine ⟨?_, hbel⟩
      show Ending.returned (.int .i64 (wrap64 (bits BinOp.xor IntKind.u32 IntKind.u32.max n))) = _
      rw [hv]
def check_Sum.f (a0 : ByteArray) : Option (Int) := if a0.size ≤ 140737488351232 then some (sumv a0) else none
theorem check_Sum.calls (a0 : ByteArray) (r : Int) (w : World) (h : check_Sum.f a0 = some r) :
    Calls Try.prog 9 #[.string a0] w fun e w' => e = .returned (.int .i64 r) ∧ Below w.heap.size w w' := by
  unfold check_Sum.f at h
  split at h
  · rename_i hs
    obtain rfl := Option.some.inj h
    exact sum_calls a0 w hs
  · cases h
end Go.Proofs.Ytnpahhlgniaddaa.Hand
