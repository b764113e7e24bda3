import Derived.Test.YtimicmlpaaohoaaAbL15f
/- What packets tell. -/
namespace Go.Ab
open Go.Proofs Go.RowKit Go.Oct
set_option linter.unusedVariables false
set_option linter.unusedSimpArgs false
set_option maxRecDepth 100000
theorem odd_nat {k : Nat} (h : k ≤ 4611686018427387903) : oddN (k : Int) = false := by
  simp only [oddN, Bool.or_eq_false_iff, decide_eq_false_iff_not]; omega
theorem pk2_pack {l : Lk} (hl : LkOK l) : packOK (pk2 l) = true ∧ (pk2 l).texts.length + lens (pk2 l).rows ≤ 4096 := by
  have h1 := odd_nat (k := l.epoch) (by have := hl.e2; omega)
  have h2 := odd_nat hl.o
  have h3 := odd_nat (k := l.want) (by have := hl.w; omega)
  have hf : fitsW (pk2 l) = true := by simp [fitsW, pk2, greatF, manyF, h1, h2, h3]
  have hb : (bodyB (pk2 l)).length ≤ 1048576 := by
    have a1 := putN_len9 (2 : Int).toNat
    have a2 := putN_len9 (pk2 l).nums.length
    have a3 := putN_len9 0
    have a4 := numsB_len (pk2 l).nums
    have a5 := listB_len2 (l := []) (by simp)
    have a6 : (pk2 l).nums.length = 3 := rfl
    simp only [List.length_nil] at a5
    show (headB (pk2 l) ++ rowsB (pk2 l).rows).length ≤ 1048576
    unfold headB
    simp only [show (pk2 l).rows = [] from rfl, show (pk2 l).texts = [] from rfl, show (pk2 l).kind = 2 from rfl, rowsB, List.flatMap_nil, List.length_append, List.length_nil, List.append_nil]
    omega
  exact ⟨by simp [packOK, hf, hb], by simp [pk2, lens]⟩
theorem pk1_pack {l : Lk} (hl : LkOK l) (k : Nat) (hk : k < l.q.length) (hq : (l.q.getD k []).length ≤ 65536) : packOK (pk1 l k) = true ∧ (pk1 l k).texts.length + lens (pk1 l k).rows ≤ 4096 := by
  have hql := hl.q
  have h1 := odd_nat (k := l.epoch) (by have := hl.e2; omega)
  have h2 := odd_nat hl.o
  have h3 := odd_nat (k := l.want) (by have := hl.w; omega)
  have h4 := odd_nat (k := l.first + k) (by have := hl.f; omega)
  have h5 : longT (l.q.getD k []) = false := by unfold longT; simp only [decide_eq_false_iff_not]; omega
  have h5' := h5
  rw [List.getD_eq_getElem?_getD] at h5'
  have hf : fitsW (pk1 l k) = true := by
    simp only [Int.natCast_add] at h4
    simp [fitsW, pk1, greatF, manyF, h1, h2, h3, h4, h5, h5']
  have hb : (bodyB (pk1 l k)).length ≤ 1048576 := by
    have a1 := putN_len9 (1 : Int).toNat
    have a2 := putN_len9 (pk1 l k).nums.length
    have a3 := putN_len9 0
    have a4 := numsB_len (pk1 l k).nums
    have a5 := listB_len2 (l := [l.q.getD k []]) (by intro s hs; rw [List.mem_singleton.1 hs]; exact hq)
    have a6 : (pk1 l k).nums.length = 4 := rfl
    simp only [List.length_singleton] at a5
    show (headB (pk1 l k) ++ rowsB (pk1 l k).rows).length ≤ 1048576
    unfold headB
    simp only [show (pk1 l k).rows = [] from rfl, show (pk1 l k).texts = [l.q.getD k []] from rfl, show (pk1 l k).kind = 1 from rfl, rowsB, List.flatMap_nil, List.length_append, List.length_nil, List.append_nil]
    omega
  exact ⟨by simp [packOK, hf, hb], by simp [pk1, lens]⟩
theorem one_pkt {n : Note} (hp : packOK n = true) (hs : n.texts.length + lens n.rows ≤ 4096) : oneO (pkt n) = true ∧ oneN (pkt n) = n := by
  have hu := unp_pack hp hs []
  rw [List.append_nil] at hu
  have e : pkt n = packB n := by unfold pkt; rw [if_pos hp]
  unfold oneO oneN
  rw [e, hu]
  simp
theorem rd_pk2 {l : Lk} (hl : LkOK l) : rdN (pkt (pk2 l)) = (emptyN, true) ∧ oneN (pkt (pk2 l)) = pk2 l := by
  obtain ⟨a, b⟩ := pk2_pack hl
  obtain ⟨c, d⟩ := one_pkt a b
  refine ⟨?_, d⟩
  unfold rdN
  rw [c, d, if_pos ⟨rfl, rfl⟩, if_pos ⟨rfl, rfl, rfl⟩]
theorem rd_pk1 {l : Lk} (hl : LkOK l) {k : Nat} (hk : k < l.q.length) {m : Note} (hm : l.q.getD k [] = packB m) (hp : packOK m = true) (hs : m.texts.length + lens m.rows ≤ 4096) (hlen : (packB m).length ≤ 65536) : rdN (pkt (pk1 l k)) = (m, true) ∧ oneN (pkt (pk1 l k)) = pk1 l k := by
  obtain ⟨a, b⟩ := pk1_pack hl k hk (by rw [hm]; exact hlen)
  obtain ⟨c, d⟩ := one_pkt a b
  refine ⟨?_, d⟩
  have e : packB m = pkt m := by unfold pkt; rw [if_pos hp]
  obtain ⟨f, g⟩ := one_pkt hp hs
  have ht : (pk1 l k).texts.getD 0 [] = pkt m := by
    show l.q.getD k [] = pkt m
    rw [hm, e]
  have h2 : ¬ ((pk1 l k).kind = 2 ∧ (pk1 l k).nums.length = 3 ∧ (pk1 l k).texts.length = 0) := fun h => by
    have := h.1
    simp [pk1] at this
  unfold rdN
  rw [c, d, if_pos ⟨rfl, rfl⟩, if_neg h2, if_pos ⟨rfl, rfl, rfl⟩, ht, f, g]
/-! What Take does with such packets. -/
/-- A bare packet (of the end x at some time). -/
theorem take_bare {l x : Lk} (hx : LkOK x) (h1 : max l.other 1 ≤ x.epoch) :
    takeP l (pkt (pk2 x)) = (if x.other ≠ l.epoch then (freshP l x.epoch, [], [pkt (pk2 (freshP l x.epoch))], decide (l.other < x.epoch) && decide (0 < l.other)) else (ackP (freshP l x.epoch) x.want, [], [], decide (l.other < x.epoch) && decide (0 < l.other))) := by
  obtain ⟨a, b⟩ := rd_pk2 hx
  unfold takeP
  rw [a, b]
  have n0 : nth (pk2 x) 0 = x.epoch := rfl
  have n1 : nth (pk2 x) 1 = x.other := rfl
  have n2 : nth (pk2 x) ((pk2 x).nums.length - 1) = x.want := rfl
  have hk : ¬ ((pk2 x).kind = 1) := by simp [pk2]
  rw [n0, n1, n2, if_neg (by simp; omega)]
  by_cases h : x.other = l.epoch
  · have h' : ¬ (x.other ≠ l.epoch) := fun g => g h
    simp only [if_neg h', if_neg hk]
  · have h' : x.other ≠ l.epoch := h
    simp only [if_pos h']
/-- A full packet. -/
theorem take_full {l x : Lk} (hx : LkOK x) {k : Nat} (hk : k < x.q.length) {m : Note} (hm : x.q.getD k [] = packB m) (hp : packOK m = true) (hs : m.texts.length + lens m.rows ≤ 4096) (hlen : (packB m).length ≤ 65536) (h1 : max l.other 1 ≤ x.epoch) :
    takeP l (pkt (pk1 x k)) = (if x.other ≠ l.epoch then (freshP l x.epoch, [], [pkt (pk2 (freshP l x.epoch))], decide (l.other < x.epoch) && decide (0 < l.other))
      else if x.first + k = (freshP l x.epoch).want then (nextP (ackP (freshP l x.epoch) x.want), [m], [pkt (pk2 (nextP (ackP (freshP l x.epoch) x.want)))], decide (l.other < x.epoch) && decide (0 < l.other))
      else (ackP (freshP l x.epoch) x.want, [], [pkt (pk2 (ackP (freshP l x.epoch) x.want))], decide (l.other < x.epoch) && decide (0 < l.other))) := by
  obtain ⟨a, b⟩ := rd_pk1 hx hk hm hp hs hlen
  unfold takeP
  rw [a, b]
  have n0 : nth (pk1 x k) 0 = x.epoch := rfl
  have n1 : nth (pk1 x k) 1 = x.other := rfl
  have n2 : nth (pk1 x k) 2 = x.first + k := by
    show ((x.first + k : Nat) : Int).toNat = _
    omega
  have n3 : nth (pk1 x k) ((pk1 x k).nums.length - 1) = x.want := rfl
  have hkd : (pk1 x k).kind = 1 := rfl
  rw [n0, n1, n2, n3, if_neg (by simp; omega)]
  by_cases h : x.other = l.epoch
  · have h' : ¬ (x.other ≠ l.epoch) := fun g => g h
    simp only [if_neg h', if_pos hkd]
  · have h' : x.other ≠ l.epoch := h
    simp only [if_pos h']
/-- A packet of an elder end. -/
theorem take_late {l : Lk} {s : List UInt8} (h : nth (oneN s) 0 < max l.other 1) : takeP l s = (l, [], [], false) := by
  unfold takeP
  rw [if_pos (.inr h)]
end Go.Ab
