import Derived.Test.YtjeoenpkhfmafaaHput
import Derived.Test.YtjeoenpkhfmafaaHbld
/- octet.PutStr and octet.PutList, by walks. -/
namespace Go.Proofs.Ytjeoenpkhfmafaa.Hand
open Go.RowKit Go.Proofs.YtjeoenpkhfmafaaW.PrintWords Go.Proofs.YtjeoenpkhfmafaaW.PrintLast Go.Proofs.YtjeoenpkhfmafaaW.PrintMore
set_option linter.unusedVariables false
set_option linter.unusedSimpArgs false

/-- A text's bytes, its length ahead. -/
def pstr (s : ByteArray) : ByteArray := strOfNums (nbytes s.size) ++ s
theorem nbytes_length (n : Nat) : (nbytes n).length ≤ 9 := by
  have := nl_le 8 n
  unfold nbytes nlen
  rw [List.length_cons, low_length]
  omega
theorem hdr_size (n : Nat) : (strOfNums (nbytes n)).size ≤ 9 := by
  rw [strOfNums_size]
  exact nbytes_length n
theorem pstr_size (s : ByteArray) : (pstr s).size ≤ s.size + 9 := by
  unfold pstr
  rw [ByteArray.size_append]
  have := hdr_size s.size
  omega
set_option maxHeartbeats 1000000 in
set_option maxRecDepth 100000 in
theorem putstr_great (s : ByteArray) (w : World) (h : 65536 < s.size) :
    Calls Try.prog 20 #[.string s] w fun e w' => e = .returned (.tuple #[.string ⟨#[]⟩, .int .i64 12]) ∧ Below w.heap.size w w' := by
  have c : decide (65536 < (s.size : Int)) = true := by simp; omega
  have c2 : decide (65536 < s.size) = true := by simp; omega
  go_enter Try.func20, Try.ntmps20
  go_wp2
  go_ret2
  exact ⟨rfl, Below.refl _ _⟩
set_option maxHeartbeats 1000000 in
set_option maxRecDepth 100000 in
theorem putstr_calls (s : ByteArray) (w : World) (h : s.size ≤ 65536) :
    Calls Try.prog 20 #[.string s] w fun e w' => e = .returned (.tuple #[.string (pstr s), .int .i64 0]) ∧ Below w.heap.size w w' := by
  have c : decide (65536 < (s.size : Int)) = false := by simp; omega
  have c2 : decide (65536 < s.size) = false := by simp; omega
  have hz := hdr_size s.size
  go_enter Try.func20, Try.ntmps20
  go_wp2_with (go_at_call 12; (with_reducible refine (putnum_calls s.size _ (by omega)).mono ?_); rintro e w1 ⟨rfl, hb⟩)
  go_ret2
  exact ⟨rfl, hb⟩
def octet_PutStr.f (a0 : ByteArray) : Option (ByteArray × Int) := if 65536 < a0.size then some (⟨#[]⟩, 12) else some (pstr a0, 0)
theorem octet_PutStr.calls (a0 : ByteArray) (r1 : ByteArray) (r2 : Int) (w : World) (h : octet_PutStr.f a0 = some (r1, r2)) :
    Calls Try.prog 20 #[.string a0] w fun e w' => e = .returned (.tuple #[.string r1, .int .i64 r2]) ∧ Below w.heap.size w w' := by
  unfold octet_PutStr.f at h
  split at h
  · rename_i h0
    obtain ⟨rfl, rfl⟩ := Prod.mk.inj (Option.some.inj h)
    exact putstr_great a0 w h0
  · rename_i h0
    obtain ⟨rfl, rfl⟩ := Prod.mk.inj (Option.some.inj h)
    exact putstr_calls a0 w (by omega)

/-! ### a builder that lives on -/
abbrev Bld (B b : Nat) (l : List UInt8) (w : World) : Prop := Lib.IsBuilder 48 5 B b (Lib.byteCells l) w
theorem bldAt_below {T e : TypeId} {B b : Nat} {p : Value} {bs : List Value} {w w1 : World} (h : Lib.BuilderAt T e B b p bs w) (hb : Below w.heap.size w w1) : Lib.BuilderAt T e B b p bs w1 := by
  have hlt := h.lt
  obtain ⟨h0, v, h1, h2, h3⟩ := h
  exact ⟨h0, v, (hb.block b hlt).trans h1, pw_own_below h2 hb, h3⟩
theorem bld_below {B b : Nat} {l : List UInt8} {w w1 : World} (h : Bld B b l w) (hb : Below w.heap.size w w1) : Bld B b l w1 :=
  h.imp (fun h => bldAt_below h hb) (fun h => bldAt_below h hb)
theorem bld_new (w : World) : Bld w.heap.size w.heap.size [] (w.alloc (.cells #[.pointer none, .slice none 0 0] 48)) :=
  .inl ⟨Nat.le_refl _, .slice none 0 0, heap_alloc_new _ _, World.ownsRow_nil _ _ _ _, by simp [Value.ownBlock]⟩
theorem byteCells_str (l : List UInt8) (s : ByteArray) : Lib.byteCells l ++ Lib.strCells s = Lib.byteCells (l ++ s.data.toList) := by
  simp [Lib.byteCells, Lib.strCells]
theorem bld_put (B b : Nat) (l : List UInt8) (s : ByteArray) (w : World) (h : Bld B b l w) (hlen : l.length + s.size ≤ 140737488355328) (hBw : B ≤ w.heap.size) :
    Calls Try.prog 28 #[.pointer (some ⟨b, 0, none⟩), .string s] w fun e w' => e = .returned (.tuple #[.int .i64 s.size, .nilIface]) ∧ (Bld B b (l ++ s.data.toList) w' ∧ Below B w w') := by
  refine (bld_write B b (Lib.byteCells l) s w h (by rw [Lib.byteCells_length]; exact hlen) hBw).mono ?_
  rintro e w' ⟨rfl, h1, h2⟩
  rw [byteCells_str] at h1
  exact ⟨rfl, .inr h1, h2⟩
theorem bld_get (B b : Nat) (l : List UInt8) (w : World) (h : Bld B b l w) (hBw : B ≤ w.heap.size) :
    Calls Try.prog 29 #[.pointer (some ⟨b, 0, none⟩)] w fun e w' => e = .returned (.string ⟨l.toArray⟩) ∧ Below B w w' := by
  by_cases h0 : l = []
  · subst h0
    exact bld_string_empty B b w h hBw
  · exact bld_string B b l w h h0
theorem bld_lt {B b : Nat} {l : List UInt8} {w : World} (h : Bld B b l w) : b < w.heap.size := h.elim (fun h => h.lt) (fun h => h.lt)
theorem bld_base {B b : Nat} {l : List UInt8} {w : World} (h : Bld B b l w) : B ≤ b := h.elim (fun h => h.1) (fun h => h.1)

/-- The bytes of texts one behind the other. -/
def pcat : List ByteArray → List UInt8
  | [] => []
  | s :: l => (pstr s).data.toList ++ pcat l
theorem pcat_snoc (l : List ByteArray) (s : ByteArray) : pcat (l ++ [s]) = pcat l ++ (pstr s).data.toList := by
  induction l with
  | nil => simp [pcat]
  | cons a l ih => simp [pcat, ih]
def phead (n : Nat) : List UInt8 := (strOfNums (nbytes n)).data.toList
/-- A list's bytes. -/
def plist (l : List ByteArray) : List UInt8 := phead l.length ++ pcat l
theorem data_len (s : ByteArray) : s.data.toList.length = s.size := by rw [Array.length_toList]; rfl
theorem pcat_len (l : List ByteArray) (h : ∀ s ∈ l, s.size ≤ 65536) : (pcat l).length ≤ l.length * 65545 := by
  induction l with
  | nil => simp [pcat]
  | cons a l ih =>
    have h1 := ih (fun s hs => h s (List.mem_cons_of_mem _ hs))
    have h2 := h a List.mem_cons_self
    have h3 := pstr_size a
    simp only [pcat, List.length_append, List.length_cons, data_len]
    omega
theorem phead_len (n : Nat) : (phead n).length ≤ 9 := by
  unfold phead
  rw [data_len]
  exact hdr_size n
theorem take_at (l : List ByteArray) (k : Nat) (h : k < l.length) : l.take (k + 1) = l.take k ++ [l.getD k ByteArray.empty] := by
  rw [List.take_succ_eq_append_getElem h]
  simp [List.getD, h]
set_option maxHeartbeats 1000000 in
set_option maxRecDepth 100000 in
theorem putlist_many (A0 : Option Addr) (c0 : Nat) (l0 : List ByteArray) (w : World) (h : 4096 < l0.length) :
    Calls Try.prog 26 #[.slice A0 l0.length c0] w fun e w' => e = .returned (.tuple #[.string ⟨#[]⟩, .int .i64 12]) ∧ Below w.heap.size w w' := by
  have c : decide (4096 < (l0.length : Int)) = true := by simp; omega
  have c2 : decide (4096 < l0.length) = true := by simp; omega
  go_enter Try.func26, Try.ntmps26
  go_wp2
  go_ret2
  exact ⟨rfl, Below.refl _ _⟩
/-- What PutList answers. -/
def plistR (l : List ByteArray) : ByteArray × Int := if l.any (fun s => decide (65536 < s.size)) then (⟨#[]⟩, 12) else (⟨(plist l).toArray⟩, 0)
set_option maxHeartbeats 2000000 in
set_option maxRecDepth 100000 in
theorem putlist_calls (A0 : Option Addr) (c0 : Nat) (l0 : List ByteArray) (w : World) (hr0 : Kd.C Kd.string w A0 l0.length l0) (h : l0.length ≤ 4096) :
    Calls Try.prog 26 #[.slice A0 l0.length c0] w fun e w' => e = .returned (.tuple #[.string (plistR l0).1, .int .i64 (plistR l0).2]) ∧ Below w.heap.size w w' := by
  have c : decide (4096 < (l0.length : Int)) = false := by simp; omega
  have c2 : decide (4096 < l0.length) = false := by simp; omega
  have HR := Lib.hid hr0
  clear hr0
  have hp := phead_len l0.length
  have hz := hdr_size l0.length
  go_enter Try.func26, Try.ntmps26
  go_wp2_with fail
  have hbn := bld_new w
  have hw0 : Below w.heap.size w (w.alloc (.cells #[.pointer none, .slice none 0 0] 48)) := below_alloc (Below.refl _ _) _
  generalize w.alloc (.cells #[.pointer none, .slice none 0 0] 48) = w1 at hbn hw0 ⊢
  obtain ⟨g, hg⟩ : ∃ g, g = w.heap.size := ⟨_, rfl⟩
  rw [← hg] at hbn hw0 ⊢
  have Hg := Lib.hid hg
  clear hg
  refine (putnum_calls l0.length _ (by omega)).mono ?_
  rintro e w2 ⟨rfl, hb⟩
  have hbn2 := bld_below hbn hb
  have hw2 : Below g w w2 := below_then hw0 (by have := hw0.size; have := Hg.out; have := bld_lt hbn; omega) hb
  clear hbn hw0 hb w1
  go_wp2_with fail
  refine (bld_put g g [] (strOfNums (nbytes l0.length)) w2 hbn2 (by rw [List.length_nil]; omega) (Nat.le_of_lt (bld_lt hbn2))).mono ?_
  rintro e w3 ⟨rfl, hbn3, hb⟩
  have hw3 : Below g w w3 := hw2.trans hb
  rw [List.nil_append] at hbn3
  have hbn3' : Bld g g (phead l0.length ++ pcat (l0.take 0)) w3 := by
    rw [List.take_zero]
    show Bld g g (phead l0.length ++ []) w3
    rw [List.append_nil]
    exact hbn3
  clear hbn2 hbn3 hb hw2
  go_wp2_with fail
  go_loopw [24] (fun v24 wr => ∃ k : Nat, k ≤ l0.length ∧ v24 = .int .i64 k ∧ Bld g g (phead l0.length ++ pcat (l0.take k)) wr ∧ Below g w wr ∧ Hid (∀ s ∈ l0.take k, s.size ≤ 65536)) (fun v24 _ => l0.length - (intOf v24).toNat)
  case atStart => exact ⟨0, by omega, rfl, hbn3', hw3, Lib.hid (fun s hs => by simp at hs)⟩
  case round =>
    obtain ⟨k, hk, rfl, hbl, hbel, HA⟩ := hrel
    obtain ⟨wo, rfl⟩ : ∃ wo : World, wo = wr := ⟨_, rfl⟩
    have HB := Lib.hid hbl
    have HW := Lib.hid hbel
    clear hbl hbel
    by_cases hlt : k < l0.length
    · have hbw : Below w.heap.size w wo := by rw [← Hg.out]; exact HW.out
      obtain ⟨ad, e1, hc⟩ := Kd.at_string (Kd.C_below HR.out hbw) (k : Int) (by omega) (by omega)
      cases e1
      obtain ⟨s, hs⟩ : ∃ s, s = l0.getD k ByteArray.empty := ⟨_, rfl⟩
      have hrs : rdOf ByteArray.empty l0 (k : Int) = s := by rw [hs]; rfl
      rw [hrs, show ((k : Int)).toNat = k from by omega] at hc
      have HS := Lib.hid hs
      clear hs hrs hbw
      by_cases hgr : 65536 < s.size
      · go_wp2_with fail
        refine (putstr_great s _ hgr).mono ?_
        rintro e w4 ⟨rfl, hb⟩
        go_wp2_with fail
        go_ret2
        have hfin : plistR l0 = (⟨#[]⟩, 12) := by
          unfold plistR
          rw [if_pos]
          rw [List.any_eq_true]
          refine ⟨s, ?_, by simpa using hgr⟩
          rw [HS.out]
          simp [List.getD, hlt]
        rw [hfin]
        refine ⟨rfl, ?_⟩
        rw [← Hg.out]
        exact below_then HW.out (Nat.le_of_lt (bld_lt HB.out)) hb
      · have hsz := pstr_size s
        go_wp2_with fail
        refine (putstr_calls s _ (by omega)).mono ?_
        rintro e w4 ⟨rfl, hb⟩
        have hb4 := bld_below HB.out hb
        have hw4 := below_then HW.out (Nat.le_of_lt (bld_lt HB.out)) hb
        have hln : (phead l0.length ++ pcat (l0.take k)).length + (pstr s).size ≤ 140737488355328 := by
          have := pcat_len (l0.take k) HA.out
          rw [List.length_append]
          rw [List.length_take] at this
          have : min k l0.length ≤ 4096 := by omega
          omega
        clear hb HB HW
        go_wp2_with fail
        refine (bld_put g g _ (pstr s) w4 hb4 hln (Nat.le_of_lt (bld_lt hb4))).mono ?_
        rintro e w5 ⟨rfl, hb5, hb⟩
        have hw5 := hw4.trans hb
        rw [List.append_assoc, HS.out, ← pcat_snoc, ← take_at l0 k hlt] at hb5
        have HA2 : Hid (∀ s ∈ l0.take (k + 1), s.size ≤ 65536) := Lib.hid (fun x hx => by
          rw [take_at l0 k hlt, List.mem_append] at hx
          rcases hx with hx | hx
          · exact HA.out x hx
          · rw [List.mem_singleton] at hx
            rw [hx, ← HS.out]
            omega)
        clear hb hb4 hw4 hln
        go_wp2_with fail
        exact ⟨⟨k + 1, by omega, by go_num, hb5, hw5, HA2⟩, by simp [intOf]; omega⟩
    · obtain rfl : k = l0.length := by omega
      go_wp2_with fail
      refine (bld_get g g _ wo HB.out (Nat.le_of_lt (bld_lt HB.out))).mono ?_
      rintro e w4 ⟨rfl, hb⟩
      have hw4 := HW.out.trans hb
      have hfin : plistR l0 = (⟨(phead l0.length ++ pcat l0).toArray⟩, 0) := by
        unfold plistR
        rw [if_neg]
        · rfl
        · rw [List.any_eq_true]
          rintro ⟨s, hs, h2⟩
          have := HA.out s (by rw [List.take_length]; exact hs)
          simp at h2
          omega
      have Hfin := Lib.hid hfin
      clear hfin
      go_wp2_with fail
      go_ret2
      rw [Hfin.out]
      refine ⟨rfl, ?_⟩
      rw [← Hg.out]
      exact hw4
def octet_PutList.f (l0 : List ByteArray) : Option (ByteArray × Int) := if 4096 < l0.length then some (⟨#[]⟩, 12) else some (plistR l0)
theorem octet_PutList.calls (A0 : Option Addr) (c0 : Nat) (l0 : List ByteArray) (r1 : ByteArray) (r2 : Int) (w : World) (hr0 : Kd.C Kd.string w A0 l0.length l0) (hc0 : l0.length ≤ c0) (h : octet_PutList.f l0 = some (r1, r2)) :
    Calls Try.prog 26 #[.slice A0 l0.length c0] w fun e w' => e = .returned (.tuple #[.string r1, .int .i64 r2]) ∧ Below w.heap.size w w' := by
  unfold octet_PutList.f at h
  split at h
  · rename_i h0
    obtain ⟨rfl, rfl⟩ := Prod.mk.inj (Option.some.inj h)
    exact putlist_many A0 c0 l0 w h0
  · rename_i h0
    obtain ⟨rfl, rfl⟩ := Prod.mk.inj (Option.some.inj h)
    exact putlist_calls A0 c0 l0 w hr0 (by omega)
end Go.Proofs.Ytjeoenpkhfmafaa.Hand
