import Derived.Test.YtjeoenpkhfmafaaHplist
import Derived.Test.YtjeoenpkhfmafaaHbyt
import Derived.Test.YtjeoenpkhfmafaaPa1
/- The document's PutNum and PutStr come to the same bytes; its PutList by a walk. -/
namespace Go.Proofs.Ytjeoenpkhfmafaa.Hand
open Go.RowKit Go.Proofs.YtjeoenpkhfmafaaW.PrintWords Go.Proofs.YtjeoenpkhfmafaaW.PrintLast Go.Proofs.YtjeoenpkhfmafaaW.PrintMore Go.Proofs.Ytjeoenpkhfmafaa.Pa
set_option linter.unusedVariables false
set_option linter.unusedSimpArgs false

theorem w64 (x : Int) (h0 : -9223372036854775808 ≤ x) (h1 : x < 9223372036854775808) : wrap64 x = x := by
  unfold wrap64
  omega
def dig (n t : Nat) : Int := ((n / 256 ^ t % 256 : Nat) : Int)
theorem dig_range (n t : Nat) : 0 ≤ dig n t ∧ dig n t < 256 := by
  unfold dig
  omega
def leL (n j : Nat) : List Int := (List.range j).map (dig n)
theorem leL_length (n j : Nat) : (leL n j).length = j := by simp [leL]
theorem leL_snoc (n j : Nat) : leL n j ++ [dig n j] = leL n (j + 1) := by simp [leL, List.range_succ]
theorem leL_at (n j t : Nat) (h : t < j) : rd (leL n j) (t : Int) = dig n t := by
  unfold rd leL
  rw [show ((t : Int)).toNat = t from by omega]
  simp [List.getD, h]
theorem ref_l1 (n J : Nat) (hJ : J ≤ 8) : ∀ (j k : Nat) (out : List Int), j ≤ J → out.length ≤ 20 - j →
    sinewref01_PutNum.l1 (k + j + 1) (leL n J) out ((j : Int) - 1) = some (strOfNums (out ++ low n j), 0)
  | 0, k, out, hj, ho => by
    show sinewref01_PutNum.l1 (k + 1) _ _ _ = _
    rw [sinewref01_PutNum.l1, if_neg (by omega)]
    simp [low]
  | j + 1, k, out, hj, ho => by
    rw [show k + (j + 1) + 1 = (k + j + 1) + 1 from by omega, sinewref01_PutNum.l1, if_pos (by omega), if_pos (by omega), if_pos (by rw [leL_length]; omega), if_pos (by omega), w64 _ (by omega) (by omega)]
    rw [show (((j + 1 : Nat) : Int) - 1) = (j : Int) from by omega, leL_at n J j (by omega)]
    rw [ref_l1 n J hJ j k (out ++ [dig n j]) (by omega) (by rw [List.length_append, List.length_singleton]; omega), List.append_assoc]
    rfl
theorem ref_l0 (n : Nat) (hn : n < 9223372036854775808) : ∀ (d j m k : Nat), d + j = 8 → m = n / 256 ^ j → nlen n = j + nl d m →
    sinewref01_PutNum.l0 (k + d + 11) (m : Int) (leL n j) = some (strOfNums (nbytes n), 0)
  | 0, j, m, k, hj, hm, hl => by
    have h0 : m = 0 := by
      obtain rfl : j = 8 := by omega
      rw [hm]
      exact Nat.div_eq_of_lt (by omega)
    subst h0
    have hJ : nlen n = j := by rw [nl_zero] at hl; omega
    show sinewref01_PutNum.l0 (k + 10 + 1) _ _ = _
    rw [sinewref01_PutNum.l0, if_neg (by omega), if_pos (by simp), leL_length, w64 _ (by omega) (by omega), show ((j : Int) % 256) = (j : Int) from by omega]
    have := ref_l1 n j (by omega) j (k + 10 - (j + 1)) ([] ++ [(j : Int)]) (by omega) (by simp; omega)
    rw [show k + 10 - (j + 1) + j + 1 = k + 10 from by omega] at this
    rw [this]
    unfold nbytes
    rw [hJ]
    rfl
  | d + 1, j, m, k, hj, hm, hl => by
    have hmn : m ≤ n := by rw [hm]; exact Nat.div_le_self _ _
    by_cases h0 : m = 0
    · subst h0
      have hJ : nlen n = j := by rw [nl_zero] at hl; omega
      show sinewref01_PutNum.l0 (k + d + 11 + 1) _ _ = _
      rw [sinewref01_PutNum.l0, if_neg (by omega), if_pos (by simp), leL_length, w64 _ (by omega) (by omega), show ((j : Int) % 256) = (j : Int) from by omega]
      have := ref_l1 n j (by omega) j (k + d + 11 - (j + 1)) ([] ++ [(j : Int)]) (by omega) (by simp; omega)
      rw [show k + d + 11 - (j + 1) + j + 1 = k + d + 11 from by omega] at this
      rw [this]
      unfold nbytes
      rw [hJ]
      rfl
    · show sinewref01_PutNum.l0 (k + d + 11 + 1) _ _ = _
      have e1 : ((m : Int)).tdiv 256 = ((m / 256 : Nat) : Int) := by rw [Int.tdiv_eq_ediv_of_nonneg (by omega)]; omega
      have e2 : ((m : Int)).tmod 256 % 256 = dig n j := by
        rw [Int.tmod_eq_emod_of_nonneg (by omega)]
        unfold dig
        rw [← hm]
        omega
      rw [sinewref01_PutNum.l0, if_pos (by omega), if_pos (by rw [leL_length]; omega), e1, e2, w64 _ (by omega) (by omega), leL_snoc]
      refine ref_l0 n hn d (j + 1) (m / 256) k (by omega) ?_ ?_
      · rw [hm, Nat.div_div_eq_div_mul, ← Nat.pow_succ]
      · unfold nl at hl
        rw [if_neg h0] at hl
        omega
theorem ref_putnum (n : Nat) (hn : n < 9223372036854775808) (k : Nat) : sinewref01_PutNum.f (k + 19) (n : Int) = some (strOfNums (nbytes n), 0) := by
  unfold sinewref01_PutNum.f
  rw [if_neg (by omega)]
  have := ref_l0 n hn 8 0 n k (by omega) (by simp) (by rw [Nat.zero_add]; rfl)
  exact this
theorem ref_putstr (s : ByteArray) (hs : s.size ≤ 65536) (k : Nat) : sinewref01_PutStr.f (k + 19) s = some (pstr s, 0) := by
  unfold sinewref01_PutStr.f
  have := hdr_size s.size
  rw [if_neg (by omega), ref_putnum s.size (by omega) k]
  simp only [Option.bind_some]
  rw [if_pos (by omega)]
  rfl
theorem ref_putstr_great (s : ByteArray) (hs : 65536 < s.size) (k : Nat) : sinewref01_PutStr.f k s = some (⟨#[]⟩, 12) := by
  unfold sinewref01_PutStr.f
  rw [if_pos (by omega)]
theorem rputnum_calls (n : Nat) (w : World) (h : n < 9223372036854775808) :
    Calls Try.prog 13 #[.int .i64 n] w fun e w' => e = .returned (.tuple #[.string (strOfNums (nbytes n)), .int .i64 0]) ∧ Below w.heap.size w w' :=
  sinewref01_PutNum.calls 19 n _ _ w (by have := ref_putnum n h 0; rwa [Nat.zero_add] at this)
theorem rputstr_calls (s : ByteArray) (w : World) (h : s.size ≤ 65536) :
    Calls Try.prog 21 #[.string s] w fun e w' => e = .returned (.tuple #[.string (pstr s), .int .i64 0]) ∧ Below w.heap.size w w' :=
  sinewref01_PutStr.calls 19 s _ _ w (by have := ref_putstr s h 0; rwa [Nat.zero_add] at this)
theorem rputstr_great (s : ByteArray) (w : World) (h : 65536 < s.size) :
    Calls Try.prog 21 #[.string s] w fun e w' => e = .returned (.tuple #[.string ⟨#[]⟩, .int .i64 12]) ∧ Below w.heap.size w w' :=
  sinewref01_PutStr.calls 0 s _ _ w (ref_putstr_great s h 0)

set_option maxHeartbeats 1000000 in
set_option maxRecDepth 100000 in
theorem rputlist_many (A0 : Option Addr) (c0 : Nat) (l0 : List ByteArray) (w : World) (h : 4096 < l0.length) :
    Calls Try.prog 27 #[.slice A0 l0.length c0] w fun e w' => e = .returned (.tuple #[.string ⟨#[]⟩, .int .i64 12]) ∧ Below w.heap.size w w' := by
  have c : decide (4096 < (l0.length : Int)) = true := by simp; omega
  have c2 : decide (4096 < l0.length) = true := by simp; omega
  go_enter Try.func27, Try.ntmps27
  go_wp2
  go_ret2
  exact ⟨rfl, Below.refl _ _⟩
set_option maxHeartbeats 2000000 in
set_option maxRecDepth 100000 in
theorem rputlist_calls (A0 : Option Addr) (c0 : Nat) (l0 : List ByteArray) (w : World) (hr0 : Kd.C Kd.string w A0 l0.length l0) (h : l0.length ≤ 4096) :
    Calls Try.prog 27 #[.slice A0 l0.length c0] w fun e w' => e = .returned (.tuple #[.string (plistR l0).1, .int .i64 (plistR l0).2]) ∧ Below w.heap.size w w' := by
  have c : decide (4096 < (l0.length : Int)) = false := by simp; omega
  have c2 : decide (4096 < l0.length) = false := by simp; omega
  have HR := Lib.hid hr0
  clear hr0
  have hp := phead_len l0.length
  have hz := hdr_size l0.length
  have kb := fun W => print_bytes (P := Try.prog) 9 45 5 Try.underlying9 Try.underlying45 Try.underlying5 (strOfNums (nbytes l0.length)) W
  go_enter Try.func27, Try.ntmps27
  go_wp2_with fail
  obtain ⟨g, hg⟩ : ∃ g, g = w.heap.size := ⟨_, rfl⟩
  refine (rputnum_calls l0.length _ (by omega)).mono ?_
  rintro e w2 ⟨rfl, hb⟩
  rw [← hg] at hb
  have hgs : g ≤ w2.heap.size := by have := hb.size; omega
  have Hg := Lib.hid hg
  clear hg
  go_wp2_with fail
  have hrow := byteRow_of_string w2 (strOfNums (nbytes l0.length)) g hgs (by unfold maxLen; omega)
  have hw3 : Below g w (Lib.bytesWorld w2 5 (strOfNums (nbytes l0.length))) := bytes_below hb hgs _ _
  generalize Lib.bytesWorld w2 5 (strOfNums (nbytes l0.length)) = w3 at hrow hw3 ⊢
  generalize Value.slice (some { block := w2.heap.size, off := 0 }) (strOfNums (nbytes l0.length)).size (grownCap w2 (strOfNums (nbytes l0.length)).size 0 5) = v3 at hrow ⊢
  have hrow' : ByteRow w3 g v3 (phead l0.length ++ pcat (l0.take 0)) := by
    rw [List.take_zero]
    show ByteRow w3 g v3 (phead l0.length ++ [])
    rw [List.append_nil]
    exact hrow
  clear kb hrow hb hgs
  go_loopw [6, 7] (fun v6 v7 wr => ∃ k : Nat, k ≤ l0.length ∧ v7 = .int .i64 k ∧ ByteRow wr g v6 (phead l0.length ++ pcat (l0.take k)) ∧ Below g w wr ∧ Hid (∀ s ∈ l0.take k, s.size ≤ 65536)) (fun _ v7 _ => l0.length - (intOf v7).toNat)
  case atStart => exact ⟨0, by omega, rfl, hrow', hw3, Lib.hid (fun s hs => by simp at hs)⟩
  case round =>
    obtain ⟨k, hk, rfl, hbl, hbel, HA⟩ := hrel
    obtain ⟨wo, rfl⟩ : ∃ wo : World, wo = wr := ⟨_, rfl⟩
    rename_i v6
    have hgl := hbl.size
    have HB := Lib.hid hbl
    have HW := Lib.hid hbel
    clear hbl hbel hrow' hw3
    by_cases hlt : k < l0.length
    · have hbw : Below w.heap.size w wo := by rw [← Hg.out]; exact HW.out
      obtain ⟨ad, e1, hc⟩ := Kd.at_string (Kd.C_below HR.out hbw) (k : Int) (by omega) (by omega)
      cases e1
      obtain ⟨s, hs⟩ : ∃ s, s = l0.getD k ByteArray.empty := ⟨_, rfl⟩
      have hrs : rdOf ByteArray.empty l0 (k : Int) = s := by rw [hs]; rfl
      rw [hrs, show ((k : Int)).toNat = k from by omega] at hc
      have HS := Lib.hid hs
      clear hs hrs hbw
      by_cases hgr : 65536 < s.size
      · go_wp2_with fail
        refine (rputstr_great s _ hgr).mono ?_
        rintro e w4 ⟨rfl, hb⟩
        go_wp2_with fail
        go_ret2
        have hfin : plistR l0 = (⟨#[]⟩, 12) := by
          unfold plistR
          rw [if_pos]
          rw [List.any_eq_true]
          refine ⟨s, ?_, by simpa using hgr⟩
          rw [HS.out]
          simp [List.getD, hlt]
        rw [hfin]
        refine ⟨rfl, ?_⟩
        rw [← Hg.out]
        exact below_then HW.out hgl hb
      · have hsz := pstr_size s
        go_wp2_with fail
        refine (rputstr_calls s _ (by omega)).mono ?_
        rintro e w4 ⟨rfl, hb⟩
        have hb4 := HB.out.below hb
        have hw4 := below_then HW.out hgl hb
        have hln : (phead l0.length ++ pcat (l0.take k)).length + (pstr s).size ≤ 140737488355328 := by
          have := pcat_len (l0.take k) HA.out
          rw [List.length_append]
          rw [List.length_take] at this
          have : min k l0.length ≤ 4096 := by omega
          omega
        clear hb HB HW
        have HB4 := Lib.hid hb4
        have HW4 := Lib.hid hw4
        clear hb4 hw4
        go_wp2_with (refine wpList_byteRow_append rfl (.tmp 38) (.tmp 39) rfl g _ _ rfl HB4.out (pstr s) rfl hln ?_; intro v7 w5 hb5 hg5)
        have hw5 : Below g w w5 := HW4.out.grown hg5 HB4.out.size (byteRow_own HB4.out)
        rw [List.append_assoc, HS.out, ← pcat_snoc, ← take_at l0 k hlt] at hb5
        have HA2 : Hid (∀ s ∈ l0.take (k + 1), s.size ≤ 65536) := Lib.hid (fun x hx => by
          rw [take_at l0 k hlt, List.mem_append] at hx
          rcases hx with hx | hx
          · exact HA.out x hx
          · rw [List.mem_singleton] at hx
            rw [hx, ← HS.out]
            omega)
        exact ⟨⟨k + 1, by omega, by go_num, hb5, hw5, HA2⟩, by simp [intOf]; omega⟩
    · obtain rfl : k = l0.length := by omega
      have hcv := HB.out.string
      have hfin : plistR l0 = (⟨(phead l0.length ++ pcat l0).toArray⟩, 0) := by
        unfold plistR
        rw [if_neg]
        · rfl
        · rw [List.any_eq_true]
          rintro ⟨s, hs, h2⟩
          have := HA.out s (by rw [List.take_length]; exact hs)
          simp at h2
          omega
      have Hfin := Lib.hid hfin
      rw [List.take_length] at hcv
      clear hfin
      go_wp2_with fail
      go_ret2
      rw [Hfin.out]
      refine ⟨rfl, ?_⟩
      rw [← Hg.out]
      exact HW.out
def sinewref01_PutList.f (l0 : List ByteArray) : Option (ByteArray × Int) := octet_PutList.f l0
theorem sinewref01_PutList.calls (A0 : Option Addr) (c0 : Nat) (l0 : List ByteArray) (r1 : ByteArray) (r2 : Int) (w : World) (hr0 : Kd.C Kd.string w A0 l0.length l0) (hc0 : l0.length ≤ c0) (h : sinewref01_PutList.f l0 = some (r1, r2)) :
    Calls Try.prog 27 #[.slice A0 l0.length c0] w fun e w' => e = .returned (.tuple #[.string r1, .int .i64 r2]) ∧ Below w.heap.size w w' := by
  unfold sinewref01_PutList.f octet_PutList.f at h
  split at h
  · rename_i h0
    obtain ⟨rfl, rfl⟩ := Prod.mk.inj (Option.some.inj h)
    exact rputlist_many A0 c0 l0 w h0
  · rename_i h0
    obtain ⟨rfl, rfl⟩ := Prod.mk.inj (Option.some.inj h)
    exact rputlist_calls A0 c0 l0 w hr0 (by omega)
end Go.Proofs.Ytjeoenpkhfmafaa.Hand
