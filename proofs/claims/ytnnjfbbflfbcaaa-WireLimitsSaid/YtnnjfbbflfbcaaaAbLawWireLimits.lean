import Derived.Test.YtnnjfbbflfbcaaaAbE03
import Derived.Test.YtnnjfbbflfbcaaaAbIn2
/- sinewlaw03.WireLimits. -/
namespace Go.Ab.Deep6
open Go.Ab Go.Proofs Go.RowKit Go.Oct
set_option linter.unusedVariables false
set_option linter.unusedSimpArgs false
theorem lim_fin (n : Note) (hn : NoteSmall n ∨ NoteOK n) (hok : NoteOK n) (hsm : NoteSM n) (cs : List V) (h4 : cs.length = 4) (h1 : ones cs = true) (her : (V.agg cs).er1.erD = noteV n) (d : Int) (hd : (0 < d → packOK n = false) ∧ (d ≤ 0 → packOK n = true ∧ n.texts.length + lens n.rows ≤ 4096)) (p : Nat) (st : St) (ho : st.ob p = some (.cells cs)) (hp : p < st.n) :
    ∃ st', g6b1111 (.int .i64 d) (.ptr p 0) st = some (.ret (.bool true), st') := by
  have ld : ∀ st, st.ob p = some (.cells cs) → ∀ K, A.load true 4 (.ptr p 0) st K = K (.agg cs) st := fun st ho K => by
    rw [load_obA, ho, obo_some, h1, _root_.cond_true, if_pos (by omega), List.drop_zero, List.take_of_length_le (by omega)]
  unfold g6b1111
  simp only [ld st ho, s18d_eq, List.map_cons, List.map_nil, her, pack_s n hok, ret_ret, bin_gtr]
  by_cases h : 0 < d
  · simp only [hd.1 h, Bool.false_eq_true, if_false, P2, ext_0, ext_1, h, decide_true, cond_true, eql_str, eql_int, beq_self_eq_true, guard_tt, show (((1 : Nat) : Int) == 1) = true from rfl, s10_val, ret_ret, er1_bool]
    exact ⟨_, rfl⟩
  · obtain ⟨hp1, hp2⟩ := hd.2 (by omega)
    have hb : (packB n).length ≤ 1048584 := by
      have := hp1
      simp only [packOK, Bool.and_eq_true, decide_eq_true_eq] at this
      unfold packB; rw [List.length_append, List.length_append, four_len, four_len]; omega
    have hu := (unp_s (packB n) (by omega) st).1
    have hup := unp_pack hp1 hp2 []
    rw [List.append_nil] at hup
    rw [hup] at hu
    simp only [hp1, if_true, P2, ext_0, ext_1, h, decide_false, cond_false]
    unfold g6b111111
    simp only [er1_str, hu, ret_ret, U3, ext_0, ext_1, ext_2, box_zero, store_note (new_at st _), put_put, eql_int, Bool.false_eq_true, if_false, show (((0 : Nat) : Int) == 0) = true from rfl, guard_tt]
    have ob1 : ((st.new (.cells (nC 0 [] 1 [] 1 [] 1))).put st.n (.cells (noteC n))).ob p = some (.cells cs) := by
      rw [put_ne _ _ (by omega), new_ne _ _ (by omega)]; exact ho
    have ob2 : ((st.new (.cells (nC 0 [] 1 [] 1 [] 1))).put st.n (.cells (noteC n))).ob st.n = some (.cells (noteC n)) := put_at _ _ _
    generalize (st.new (.cells (nC 0 [] 1 [] 1 [] 1))).put st.n (.cells (noteC n)) = st2 at ob1 ob2
    generalize st.n = q at ob2
    have hnv : (V.agg (noteC n)).er1.erD = noteV n := by
      show V.agg (((noteC n).map V.er0).map V.er00) = V.agg (noteC n)
      simp only [noteC, List.map_cons, List.map_nil, V.er0, V.er00, intsV, strsV, rowsV, List.map_map]
      rfl
    have hs : sameN n n = true := sameN_iff.2 rfl
    unfold g6b11111110_7
    simp only [guard_tt, lenS_str, eql_int, Bool.false_eq_true, if_false, beq_self_eq_true]
    unfold g6b11111110_13
    simp only [guard_tt, ld st2 ob1, load_noteb ob2, s15d_eq, List.map_cons, List.map_nil, her, hnv, noteSame_s n n hsm, hs, ret_ret, s10_val, er1_bool]
    exact ⟨_, rfl⟩
theorem any_rep {α : Type} {m : Nat} {x : α} {p : α → Bool} (h : p x = false) : (List.replicate m x).any p = false :=
  List.any_eq_false.2 fun y hy => by rw [(List.mem_replicate.1 hy).2, h]; simp
theorem catS_bound {B : Nat} : ∀ {l : List (List UInt8)}, (∀ x ∈ l, x.length ≤ B) → (catS l).length ≤ l.length * (9 + B)
  | [], _ => by simp [catS]
  | x :: l, h => by
    have h1 := catS_bound fun y hy => h y (List.mem_cons_of_mem _ hy)
    have h2 := h x (by simp)
    have h3 := putN_len9 x.length
    simp only [catS, putS, List.length_append, List.length_cons, Nat.succ_mul]
    omega
theorem listB_bound {B : Nat} {l : List (List UInt8)} (h : ∀ x ∈ l, x.length ≤ B) : (listB l).length ≤ 9 + l.length * (9 + B) := by
  unfold listB
  split
  · simp
  · split
    · unfold Oct.putL
      have := catS_bound h
      have := putN_len9 l.length
      rw [List.length_append]; omega
    · simp
theorem rowsB_bound {C : Nat} : ∀ {r : List (List (List UInt8))}, (∀ l ∈ r, (listB l).length ≤ C) → (rowsB r).length ≤ r.length * C
  | [], _ => by simp [rowsB]
  | l :: r, h => by
    have h1 := rowsB_bound fun y hy => h y (List.mem_cons_of_mem _ hy)
    have h2 := h l (by simp)
    simp only [rowsB, List.flatMap_cons, List.length_append, List.length_cons, Nat.succ_mul] at h1 ⊢
    omega
theorem body_bound (n : Note) : (bodyB n).length ≤ 27 + n.nums.length * 9 + (listB n.texts).length + (rowsB n.rows).length := by
  have a := putN_len9 n.kind.toNat
  have b := putN_len9 n.nums.length
  have c := putN_len9 n.rows.length
  have d := numsB_len n.nums
  unfold bodyB headB
  simp only [List.length_append]
  omega
theorem listB_nil : (listB []).length ≤ 9 := listB_bound (B := 0) (by simp)
theorem pk {n : Note} {b : Bool} (h : fitsW n = b) (hb : (bodyB n).length ≤ 1048576) : packOK n = b := by
  unfold packOK; rw [h]; simp [hb]
theorem lens_rep (m : Nat) (l : List (List UInt8)) : lens (List.replicate m l) = m * l.length := by
  induction m with
  | zero => simp [lens]
  | succ m ih => rw [List.replicate_succ, lens_cons, ih, Nat.succ_mul]; omega
theorem fits0 (m : Nat) : packOK ⟨7, List.replicate m 0, [], []⟩ = decide (m ≤ 64) := by
  by_cases h : m ≤ 64
  · rw [decide_eq_true h]
    refine pk ?_ ?_
    · have := any_rep (m := m) (x := (0 : Int)) (p := oddN) rfl
      unfold fitsW greatF manyF
      simp [this, h]
    · have := body_bound ⟨7, List.replicate m 0, [], []⟩
      have := listB_nil
      simp [rowsB] at *
      omega
  · have : 64 < m := by omega
    rw [decide_eq_false h]
    unfold packOK fitsW
    simp [this]
theorem fits1 (m : Nat) (hm : m ≤ 1000) : packOK ⟨7, [], List.replicate 4000 [], [List.replicate m []]⟩ = decide (m ≤ 96) := by
  have h1 := any_rep (m := 4000) (x := ([] : List UInt8)) (p := longT) rfl
  have h2 := any_rep (m := m) (x := ([] : List UInt8)) (p := longT) rfl
  have h3 : manyF ((4000 : Nat) : Int) [List.replicate m []] = ((4000 + m : Nat) : Int) := by
    have := manyF_eq [List.replicate m ([] : List UInt8)] 4000 (by simp [lens]; omega)
    rw [this]; simp [lens]
  refine pk ?_ ?_
  · unfold fitsW greatF
    have e : (⟨7, [], List.replicate 4000 [], [List.replicate m []]⟩ : Note).texts.length = 4000 := List.length_replicate
    simp only [e, h3]
    simp only [List.any_cons, List.any_nil, h1, h2, List.length_nil, List.length_cons, Bool.or_false, Bool.false_or, Bool.not_false, Bool.true_and]
    have : decide (((4000 + m : Nat) : Int) ≤ 4096) = decide (m ≤ 96) := decide_eq_decide.2 (by omega)
    rw [this]
    simp
  · have := body_bound ⟨7, [], List.replicate 4000 [], [List.replicate m []]⟩
    have a := listB_bound (B := 0) (l := List.replicate 4000 []) (fun x hx => by rw [(List.mem_replicate.1 hx).2]; simp)
    have b := listB_bound (B := 0) (l := List.replicate m []) (fun x hx => by rw [(List.mem_replicate.1 hx).2]; simp)
    have c := rowsB_bound (C := 9 + m * 9) (r := [List.replicate m []]) (fun l hl => by rw [List.mem_singleton.1 hl]; simpa using b)
    simp only [List.length_replicate, List.length_nil, List.length_cons] at *
    omega
theorem fits1q (q m : Nat) (hq : q = 4000) (hm : m ≤ 1000) : packOK ⟨7, [], List.replicate q [], [List.replicate m []]⟩ = decide (m ≤ 96) := by subst hq; exact fits1 m hm
theorem fits2 (m : Nat) (hm : m ≤ 5000) : packOK ⟨7, [], [], List.replicate m []⟩ = decide (m ≤ 4096) := by
  by_cases h : m ≤ 4096
  · rw [decide_eq_true h]
    have h2 := any_rep (m := m) (x := ([] : List (List UInt8))) (p := fun l => l.any longT) rfl
    have h3 : manyF ((0 : Nat) : Int) (List.replicate m []) = 0 := by
      rw [manyF_eq _ 0 (by rw [lens_rep]; simp), lens_rep]; simp
    refine pk ?_ ?_
    · unfold fitsW greatF
      simp only [List.length_nil, h3, h2, List.any_nil, List.length_replicate]
      simp [h]
    · have := body_bound ⟨7, [], [], List.replicate m []⟩
      have c := rowsB_bound (C := 9) (r := List.replicate m []) (fun l hl => by rw [(List.mem_replicate.1 hl).2]; exact listB_nil)
      have := listB_nil
      simp only [List.length_replicate, List.length_nil] at *
      omega
  · rw [decide_eq_false h]
    unfold packOK fitsW
    have : 4096 < m := by omega
    simp [this]
theorem fits3 (m : Nat) (hm : m ≤ 70000) : packOK ⟨7, [], [List.replicate m 0], []⟩ = decide (m ≤ 65536) := by
  refine pk ?_ ?_
  · unfold fitsW greatF manyF longT
    by_cases h : m ≤ 65536
    · have : ¬ 65536 < m := by omega
      simp [h, this]
    · have : 65536 < m := by omega
      simp [h, this]
  · have := body_bound ⟨7, [], [List.replicate m 0], []⟩
    have a := listB_bound (B := m) (l := [List.replicate m 0]) (fun x hx => by rw [List.mem_singleton.1 hx]; simp)
    simp only [List.length_nil, List.length_cons, rowsB, List.flatMap_nil] at *
    omega
theorem mksl_n (z : V) (by_ : Nat) (m : Nat) (hz : z.one = true) (hb : by_ ≤ 65536) (hm : m ≤ 1073741824) (K : V → Res) : A.mksl 1 by_ z (.int .i64 (m : Nat)) (.int .i64 (m : Nat)) K = K (.lst (List.replicate m z) 2) := by
  have hc : z.cells = [z] := by cases z <;> first | rfl | cases hz
  have h : ((m : Int) = (m : Int) ∧ 0 ≤ (m : Int) ∧ (m : Int) ≤ 1073741824 ∧ by_ ≤ 65536 ∧ z.cells.length = 1 ∧ 0 < 1 ∧ z.cells.all V.one = true) := ⟨rfl, by omega, by omega, hb, by rw [hc]; rfl, by omega, by rw [hc]; simp [hz]⟩
  unfold A.mksl
  exact if_pos h
theorem dec_d {d : Int} {m B : Nat} (h : (m : Int) = B + d) : (0 < d → decide (m ≤ B) = false) ∧ (d ≤ 0 → decide (m ≤ B) = true) := ⟨fun g => decide_eq_false (by omega), fun g => decide_eq_true (by omega)⟩
theorem wireLimits_law (which more : Int) (st : St) : ∃ st', s6 [.int .i64 which, .int .i64 more] st = some (.ret (.bool true), st') := by
  rw [s6_eq]
  unfold f6
  have hl := low_lt 4 more (by omega)
  have hw := low_lt 4 which (by omega)
  have es : ∀ K, A.bin .sub (.int .i64 (low 4 more : Nat)) (.int .i64 1) K = K (.int .i64 ((low 4 more : Int) - 1)) := fun K => bin_sub K (by omega) (by omega)
  have eb : ∀ K, A.build [.int .i64 0, .lst [] 1, .lst [] 1, .lst [] 1] [(0, 1, .int .i64 7)] K = K (.agg (nC 7 [] 1 [] 1 [] 1)) := fun K => rfl
  have st4 : ∀ K, A.store 4 (.ptr st.n 0) (.agg (nC 7 [] 1 [] 1 [] 1)) (st.new (.cells (nC 0 [] 1 [] 1 [] 1))) K = K ((st.new (.cells (nC 0 [] 1 [] 1 [] 1))).put st.n (.cells (nC 7 [] 1 [] 1 [] 1))) := fun K => by
    rw [store_agg, new_at, obo_some]; simp [nC, Go.Ab.putL]
  simp only [bin_and3, es, eb, box_zero, st4, eql_int, Bool.false_eq_true, if_false]
  have ho : ((st.new (.cells (nC 0 [] 1 [] 1 [] 1))).put st.n (.cells (nC 7 [] 1 [] 1 [] 1))).ob st.n = some (.cells (nC 7 [] 1 [] 1 [] 1)) := put_at _ _ _
  have hlt : st.n < ((st.new (.cells (nC 0 [] 1 [] 1 [] 1))).put st.n (.cells (nC 7 [] 1 [] 1 [] 1))).n := by simp
  generalize (st.new (.cells (nC 0 [] 1 [] 1 [] 1))).put st.n (.cells (nC 7 [] 1 [] 1 [] 1)) = st1 at ho hlt
  generalize st.n = p at ho hlt
  generalize hd : (low 4 more : Int) - 1 = d
  have hd1 : -1 ≤ d ∧ d ≤ 2 := by omega
  generalize low 4 which = w at hw
  have add : ∀ (B m : Nat), (m : Int) = B + d → B ≤ 100000 → ∀ K, A.bin .add (.int .i64 (B : Nat)) (.int .i64 d) K = K (.int .i64 (m : Nat)) := fun B m h hB K => by
    rw [bin_add K (by omega) (by omega), h]
  unfold g6b1110101
  by_cases w0 : w = 0
  · subst w0
    obtain ⟨m, hm⟩ : ∃ m : Nat, (m : Int) = (64 : Nat) + d := ⟨(64 + d).toNat, by omega⟩
    have a := add 64 m hm (by omega)
    rw [show ((64 : Nat) : Int) = 64 from rfl] at a
    have s1 : ∀ (v : V) K, v.one = true → A.store 1 (.ptr p 1) v st1 K = K (st1.put p (.cells [.int .i64 7, v, .lst [] 1, .lst [] 1])) := fun v K hv => by rw [store_ob _ _ _ _ _ hv, ho]; simp [nC, rowsV]
    simp only [show (((0 : Nat) : Int) == 0) = true from rfl, cond_true, a, mksl_n (.int .i64 0) 8 m rfl (by omega) (by omega), faddr_ptr, Nat.zero_add]
    rw [s1 _ _ rfl]
    obtain ⟨d1, d2⟩ := dec_d hm
    exact lim_fin ⟨7, List.replicate m 0, [], []⟩ (.inr ⟨by simp; omega, by simp, by simp, by simp⟩) ⟨by simp; omega, by simp, by simp, by simp⟩ ⟨by simp; omega, by simp, by simp, by simp⟩ _ rfl (by simp) (by simp [V.er1, V.erD, V.er0, V.er00, noteV, noteC, intsV, strsV, rowsV]) d ⟨fun g => by rw [fits0]; exact d1 g, fun g => ⟨by rw [fits0]; exact d2 g, by simp [lens]⟩⟩ p _ (put_at _ _ _) hlt
  have e0 : (((w : Nat) : Int) == 0) = false := by simp; omega
  simp only [e0, cond_false, eql_int, Bool.false_eq_true, if_false]
  by_cases w1 : w = 1
  · subst w1
    obtain ⟨m, hm⟩ : ∃ m : Nat, (m : Int) = (96 : Nat) + d := ⟨(96 + d).toNat, by omega⟩
    have a := add 96 m hm (by omega)
    rw [show ((96 : Nat) : Int) = 96 from rfl] at a
    have s2 : ∀ (v : V) K, v.one = true → A.store 1 (.ptr p 2) v st1 K = K (st1.put p (.cells [.int .i64 7, .lst [] 1, v, .lst [] 1])) := fun v K hv => by rw [store_ob _ _ _ _ _ hv, ho]; simp [nC, rowsV]
    have s3 : ∀ (u v : V) K, v.one = true → A.store 1 (.ptr p 3) v (st1.put p (.cells [.int .i64 7, .lst [] 1, u, .lst [] 1])) K = K (st1.put p (.cells [.int .i64 7, .lst [] 1, u, v])) := fun u v K hv => by rw [store_ob _ _ _ _ _ hv, put_at]; simp
    obtain ⟨q, hq⟩ : ∃ q : Nat, q = 4000 := ⟨_, rfl⟩
    have mk : ∀ K, A.mksl 1 16 (.str []) (.int .i64 4000) (.int .i64 4000) K = K (.lst (List.replicate q (.str [])) 2) := fun K => by
      subst hq; exact mksl_n (.str []) 16 4000 rfl (by omega) (by omega) K
    have bs : ∀ K, A.bslice 1 (.lst [] 1) 1 [(0, .lst (List.replicate m (.str [])) 2)] K = K (.lst [.lst (List.replicate m (.str [])) 0] 2) := fun K => bslice_lst1 _ _ K
    simp only [show (((1 : Nat) : Int) == 1) = true from rfl, cond_true, mk, faddr_ptr, Nat.zero_add]
    rw [s2 _ _ rfl]
    simp only [a, mksl_n (.str []) 16 m rfl (by omega) (by omega), bs, faddr_ptr, Nat.zero_add]
    rw [s3 _ _ _ rfl]
    obtain ⟨d1, d2⟩ := dec_d hm
    exact lim_fin ⟨7, [], List.replicate q [], [List.replicate m []]⟩ (.inr ⟨by simp, by simp; omega, by simp, by simp; omega⟩) ⟨by simp, by simp; omega, by simp, by simp; omega⟩ ⟨by simp, by simp; omega, by simp, by simp; omega⟩ _ rfl (by simp) (by simp [V.er1, V.erD, V.er0, V.er00, noteV, noteC, intsV, strsV, rowsV]) d ⟨fun g => by rw [fits1q q m hq (by omega)]; exact d1 g, fun g => ⟨by rw [fits1q q m hq (by omega)]; exact d2 g, by simp [lens]; omega⟩⟩ p _ (put_at _ _ _) hlt
  have e1 : (((w : Nat) : Int) == 1) = false := by simp; omega
  simp only [e1, cond_false, eql_int, Bool.false_eq_true, if_false]
  by_cases w2 : w = 2
  · subst w2
    obtain ⟨m, hm⟩ : ∃ m : Nat, (m : Int) = (4096 : Nat) + d := ⟨(4096 + d).toNat, by omega⟩
    have a := add 4096 m hm (by omega)
    rw [show ((4096 : Nat) : Int) = 4096 from rfl] at a
    have s3 : ∀ (v : V) K, v.one = true → A.store 1 (.ptr p 3) v st1 K = K (st1.put p (.cells [.int .i64 7, .lst [] 1, .lst [] 1, v])) := fun v K hv => by rw [store_ob _ _ _ _ _ hv, ho]; simp [nC, rowsV]
    simp only [show (((2 : Nat) : Int) == 2) = true from rfl, cond_true, a, mksl_n (.lst [] 1) 24 m rfl (by omega) (by omega), faddr_ptr, Nat.zero_add]
    rw [s3 _ _ rfl]
    obtain ⟨d1, d2⟩ := dec_d hm
    exact lim_fin ⟨7, [], [], List.replicate m []⟩ (.inr ⟨by simp, by simp, by simp; omega, by simp⟩) ⟨by simp, by simp, by simp; omega, by simp⟩ ⟨by simp, by simp, by simp; omega, by simp⟩ _ rfl (by simp) (by simp [V.er1, V.erD, V.er0, V.er00, noteV, noteC, intsV, strsV, rowsV]) d ⟨fun g => by rw [fits2 m (by omega)]; exact d1 g, fun g => ⟨by rw [fits2 m (by omega)]; exact d2 g, by rw [lens_rep]; simp⟩⟩ p _ (put_at _ _ _) hlt
  have e2 : (((w : Nat) : Int) == 2) = false := by simp; omega
  obtain ⟨m, hm⟩ : ∃ m : Nat, (m : Int) = (65536 : Nat) + d := ⟨(65536 + d).toNat, by omega⟩
  have a := add 65536 m hm (by omega)
  rw [show ((65536 : Nat) : Int) = 65536 from rfl] at a
  have hrep : List.replicate m (V.int .u8 0) = bytV (List.replicate m 0) := by simp [bytV]
  have bs : ∀ (t : List UInt8) K, A.bslice 1 (.str []) 1 [(0, .str t)] K = K (.lst (strsV [t]) 2) := fun t K => bslice_str1 t K
  have s2 : ∀ (v : V) K, v.one = true → A.store 1 (.ptr p 2) v st1 K = K (st1.put p (.cells [.int .i64 7, .lst [] 1, v, .lst [] 1])) := fun v K hv => by rw [store_ob _ _ _ _ _ hv, ho]; simp [nC, rowsV]
  simp only [e2, cond_false, a, mksl_n (.int .u8 0) 1 m rfl (by omega) (by omega), hrep, toStr_bytV, bs, faddr_ptr, Nat.zero_add]
  rw [s2 _ _ rfl]
  obtain ⟨d1, d2⟩ := dec_d hm
  exact lim_fin ⟨7, [], [List.replicate m 0], []⟩ (.inr ⟨by simp, by simp, by simp, by simp⟩) ⟨by simp, by simp, by simp, by simp⟩ ⟨by simp, by simp, by simp, by simp⟩ _ rfl (by simp) (by simp [V.er1, V.erD, V.er0, V.er00, noteV, noteC, intsV, strsV, rowsV]) d ⟨fun g => by rw [fits3 m (by omega)]; exact d1 g, fun g => ⟨by rw [fits3 m (by omega)]; exact d2 g, by simp [lens]⟩⟩ p _ (put_at _ _ _) hlt
end Go.Ab.Deep6
namespace Go.Ab
open Go.Proofs Go.RowKit
theorem wireLimits_row {W : World} {v0 v1 : Value} {x0 x1 : V} {n0 n1 : Nat}
    (r0 : Rs (E0 W) [x0] [v0]) (s0 : Sh Try.prog n0 3 x0.cells) (f0 : fit Try.prog 3 x0)
    (r1 : Rs (E0 W) [x1] [v1]) (s1 : Sh Try.prog n1 3 x1.cells) (f1 : fit Try.prog 3 x1) :
    Calls Try.prog 6 #[v0, v1] W fun e w' => e = .returned (.bool true) ∧ Below W.heap.size W w' := by
  obtain ⟨a, rfl, _⟩ := in_int s0 f0 Try.underlying3
  obtain ⟨b, rfl, _⟩ := in_int s1 f1 Try.underlying3
  obtain ⟨st', hs⟩ := Deep6.wireLimits_law a b St0
  exact bool_row Deep6.sim6 W _ _ _ hs (Rs.cons r0 r1)
end Go.Ab
