import Derived.Test.YtjdgaphjjhhjeaaAbJ04c
/- sinewlaw04.JournalNobody, JournalRoom. -/
namespace Go.Ab
open Go.Proofs Go.RowKit Go.Oct
set_option linter.unusedVariables false
set_option linter.unusedSimpArgs false
set_option maxRecDepth 100000
theorem nobody_step (k : Int) (n : Note) (hn : NoteOK n) (p : Nat) (v0 v1 v : V) (i : Nat) (hv : [v0, v1][i]? = some v) (L : V → V → V → V → St → Res) (st : St) (hp : st.ob p = some (.cells (noteC n))) (hpn : p < st.n) (h0 : JNo st v0) (h1 : JNo st v1) (hi : i < 2) :
    ∃ st', g8b1101001001 L (.int .i64 k) (.ptr p 0) (.lst [v0, v1] 2) (.int .i64 (i : Nat)) (.int .i64 0) (.int .i64 0) st = L (.int .i64 k) (.ptr p 0) (.lst [v0, v1] 2) (.int .i64 ((i + 1 : Nat) : Int)) st' ∧ Old st st' := by
  have hj : JNo st v := by
    match i, hi with
    | 0, _ => cases hv; exact h0
    | 1, _ => cases hv; exact h1
  have hc : v.cells = [v] := by rcases hj.v with g | ⟨_, g, _, _⟩ <;> rw [g] <;> rfl
  have ia : ∀ K, A.iaddr 1 (.lst [v0, v1] 2) (.int .i64 (i : Nat)) K = K (.lptr [v]) := fun K => by
    have := iaddr_lst (l := [v0, v1]) (t := 2) (sz := 1) K hv (by rw [hc]; rfl)
    rw [this, hc]
  have e4 : ∀ K, A.bin .add (.int .i64 (i : Nat)) (.int .i64 1) K = K (.int .i64 ((i + 1 : Nat) : Int)) := fun K => bin_inc (by omega) K
  have hnv : (V.agg (noteC n)).er1 = noteV n := rfl
  obtain ⟨st', w1, o1⟩ := no_write hj n hn
  have hj' := hj.old o1
  refine ⟨st', ?_, o1⟩
  unfold g8b1101001001
  simp only [ia, load_l1', load_noteb hp, hj.er1, hnv, w1, ret_ret, kid_eq, noP_ret, eql_int, if_true, bne_self_eq_false, guard_ff, no_sure hj', no_notes hj', lenL_lst, List.length_nil, Int.natCast_zero, bin_gtr, Int.lt_irrefl, decide_false, er1_int, no_fail hj', er1_lst, no_begin hj', cond_false, e4]
theorem journalNobody_law (n : Note) (hn : NoteOK n) (k : Int) (st : St) : ∃ st', s8 [noteV n, .int .i64 k] st = some (.ret (.bool true), st') := by
  rw [s8_eq]
  unfold f8
  have bx : ∀ K, A.box (noteV n) st K = K (.ptr st.n 0) (st.new (.cells (noteC n))) := fun K => rfl
  have b : ∀ K, A.build [.int .i64 0, .lst [] 1, .int .i64 0] [] K = K (.agg (jC 0 (.lst [] 1) 0)) := fun K => rfl
  have bj : ∀ (st : St) K, A.box (.agg (jC 0 (.lst [] 1) 0)) st K = K (.ptr st.n 0) (st.new (.cells (jC 0 (.lst [] 1) 0))) := fun st K => rfl
  have bs : ∀ (q : Nat) K, A.bslice 1 .ptr0 2 [(0, .ptr0), (1, .ptr q 0)] K = K (.lst [.ptr0, .ptr q 0] 2) := fun q K => rfl
  simp only [bx, b, bj, bs, new_n]
  have hp : ((st.new (.cells (noteC n))).new (.cells (jC 0 (.lst [] 1) 0))).ob st.n = some (.cells (noteC n)) := by simp [new_ob]
  have hq : ((st.new (.cells (noteC n))).new (.cells (jC 0 (.lst [] 1) 0))).ob (st.n + 1) = some (.cells (jC 0 (.lst [] 1) 0)) := by simp [new_ob]
  have hN : ((st.new (.cells (noteC n))).new (.cells (jC 0 (.lst [] 1) 0))).n = st.n + 2 := by simp
  generalize (st.new (.cells (noteC n))).new (.cells (jC 0 (.lst [] 1) 0)) = st1 at hp hq hN
  have h0 : JNo st1 .ptr0 := ⟨.inl rfl⟩
  have h1 : JNo st1 (.ptr (st.n + 1) 0) := ⟨.inr ⟨_, rfl, hq, by omega⟩⟩
  have step : ∀ (f i : Nat) (st2 : St), i ≤ 2 → 2 < f + i → Old st1 st2 → ∃ st', g8b11010 f (.int .i64 k) (.ptr st.n 0) (.lst [.ptr0, .ptr (st.n + 1) 0] 2) (.int .i64 (i : Nat)) st2 = some (.ret (.bool true), st') := by
    intro f
    induction f with
    | zero => intro i st2 hi hf; omega
    | succ f ih =>
      intro i st2 hi hf ho
      unfold g8b11010
      by_cases hlt : i < 2
      · obtain ⟨v, hv⟩ : ∃ v, [V.ptr0, .ptr (st.n + 1) 0][i]? = some v := ⟨_, List.getElem?_eq_getElem hlt⟩
        have hj : JNo st2 v := by
          match i, hlt with
          | 0, _ => cases hv; exact h0.old ho
          | 1, _ => cases hv; exact h1.old ho
        have hc : v.cells = [v] := by rcases hj.v with g | ⟨_, g, _, _⟩ <;> rw [g] <;> rfl
        have ia : ∀ K, A.iaddr 1 (.lst [.ptr0, .ptr (st.n + 1) 0] 2) (.int .i64 (i : Nat)) K = K (.lptr [v]) := fun K => by
          have := iaddr_lst (l := [.ptr0, .ptr (st.n + 1) 0]) (t := 2) (sz := 1) K hv (by rw [hc]; rfl)
          rw [this, hc]
        simp only [lenL_lst, List.length_cons, List.length_nil, bin_lss, show ((i : Int) < ((0 + 1 + 1 : Nat) : Int)) from by omega, decide_true, cond_true, ia, load_l1', hj.er1, no_size hj, ret_ret, ext_0, ext_1]
        obtain ⟨st3, q1, q2⟩ := nobody_step k n hn st.n .ptr0 (.ptr (st.n + 1) 0) v i hv (g8b11010 f) st2 (by rw [ho.ob _ (by omega)]; exact hp) (by have := ho.n; omega) (h0.old ho) (h1.old ho) hlt
        rw [q1]
        exact ih (i + 1) st3 (by omega) (by omega) (ho.trans q2)
      · have : i = 2 := by omega
        subst this
        simp only [lenL_lst, List.length_cons, List.length_nil, bin_lss, show ¬ (((2 : Nat) : Int) < ((0 + 1 + 1 : Nat) : Int)) from by omega, decide_false, cond_false, s11_val, ret_ret, er1_bool]
        exact ⟨_, rfl⟩
  exact step big 0 st1 (by omega) (by have := big_le; omega) (Old.refl _)
theorem journalNobody_row {W : World} {v0 v1 : Value} {x0 x1 : V} {n0 n1 : Nat}
    (r0 : Rs (E0 W) [x0] [v0]) (s0 : Sh Try.prog n0 32 x0.cells) (f0 : fit Try.prog 32 x0)
    (r1 : Rs (E0 W) [x1] [v1]) (s1 : Sh Try.prog n1 3 x1.cells) (f1 : fit Try.prog 3 x1) :
    Calls Try.prog 8 #[v0, v1] W fun e w' => e = .returned (.bool true) ∧ Below W.heap.size W w' := by
  obtain ⟨n, rfl, hn⟩ := in_note s0 f0
  obtain ⟨k, rfl, _⟩ := in_int s1 f1 Try.underlying3
  obtain ⟨st', hs⟩ := journalNobody_law n hn k St0
  exact bool_row sim8 W _ _ _ hs (Rs.cons r0 r1)
/-! ### JournalRoom -/
/-- Notes that are packed, and few. -/
def GoodL (G : List Note) : Prop := ∀ n ∈ G, packOK n = true ∧ n.texts.length + lens n.rows ≤ 4096
theorem allN_full {G : List Note} (hG : GoodL G) : allN (packsB G) = (G, (packsB G).length) := by
  have := allN_cut hG (k := (packsB G).length) (j := G.length) (Nat.le_refl _) (Nat.le_refl _) (by rw [pl_all]; exact Nat.le_refl _) (.inl rfl)
  rw [List.take_length, List.take_length, pl_all] at this
  exact this
theorem GoodL.snoc {G : List Note} {n : Note} (h : GoodL G) (hp : packOK n = true) (hs : n.texts.length + lens n.rows ≤ 4096) : GoodL (G ++ [n]) := by
  intro m hm
  rcases List.mem_append.1 hm with g | g
  · exact h m g
  · rw [List.mem_singleton.1 g]; exact ⟨hp, hs⟩
def roomN (k : Nat) : Note := ⟨1, [], [List.replicate k 0], []⟩
theorem roomN_ok (k : Nat) (hk : k < 256) : NoteOK (roomN k) ∧ packOK (roomN k) = true ∧ (roomN k).texts.length + lens (roomN k).rows ≤ 4096 := by
  have hf : fitsW (roomN k) = true := by
    have : ¬ (65536 < k) := by omega
    simp [fitsW, roomN, greatF, manyF, longT, this]
  have h2 : (roomN k).texts.length + lens (roomN k).rows ≤ 4096 := by simp [roomN, lens]
  refine ⟨⟨by simp [roomN], by simp [roomN], by simp [roomN], by simp [roomN]⟩, ?_, h2⟩
  have hb : (bodyB (roomN k)).length ≤ 1048576 := by
    have a1 := putN_len9 1
    have a2 := putN_len9 0
    have a5 := listB_len2 (l := [List.replicate k (0 : UInt8)]) (by intro s hs; rw [List.mem_singleton.1 hs]; simp; omega)
    simp only [List.length_singleton] at a5
    simp only [bodyB, headB, roomN, numsB, rowsB, List.flatMap_nil, List.length_append, List.length_nil, List.append_nil, show (1 : Int).toNat = 1 from rfl]
    omega
  simp [packOK, hf, hb]
theorem mksl_n (z : V) (by_ : Nat) (m : Nat) (hz : z.one = true) (hb : by_ ≤ 65536) (hm : m ≤ 1073741824) (K : V → Res) : A.mksl 1 by_ z (.int .i64 (m : Nat)) (.int .i64 (m : Nat)) K = K (.lst (List.replicate m z) 2) := by
  have hc : z.cells = [z] := cells_of_one hz
  unfold A.mksl
  simp only
  rw [if_pos ⟨trivial, by omega, by omega, hb, by rw [hc]; rfl, by omega, by rw [hc]; simp [hz]⟩, Int.toNat_natCast]
theorem room_loop (sizes : List Int) (hl : sizes.length ≤ 9223372036854775807) (r id : Nat) (hr : r ≤ 1024) : ∀ (f i : Nat) (G : List Note) (bv : V) (st : St), i ≤ 60 → 60 < f + i → GoodL G → G.length ≤ i → JAt st id r bv (packsB G) 0 →
    ∃ st', g4b1111010 f (.lst (intsV sizes) 0) (.int .i64 (r : Nat)) (.ptr id 0) (.int .i64 (i : Nat)) st = some (.ret (.bool true), st') := by
  intro f
  induction f with
  | zero => intro i G bv st hi hf; omega
  | succ f ih =>
    intro i G bv st hi hf hG hGi hj
    unfold g4b1111010
    simp only [lenL_lst, intsV_len, bin_lss]
    by_cases h : i < sizes.length
    · simp only [show ((i : Int) < (sizes.length : Int)) from by omega, decide_true, guard_tt]
      by_cases h60 : i < 60
      · simp only [show ((i : Int) < 60) from by omega, decide_true, cond_true]
        unfold g4b111101001
        have e4 : ∀ K, A.bin .add (.int .i64 (i : Nat)) (.int .i64 1) K = K (.int .i64 ((i + 1 : Nat) : Int)) := fun K => bin_inc (by omega) K
        have ea : ∀ K, A.bin .and (.int .i64 sizes[i]) (.int .i64 255) K = K (.int .i64 (((sizes[i] % (2 ^ 8 : Nat)).toNat : Nat) : Int)) := fun K => bin_andN 8 255 rfl (by omega) K
        have hm : (sizes[i] % (2 ^ 8 : Nat)).toNat < 256 := by
          have := Int.emod_lt_of_pos sizes[i] (show (0 : Int) < (2 ^ 8 : Nat) by decide)
          have := Int.emod_nonneg sizes[i] (show ((2 ^ 8 : Nat) : Int) ≠ 0 by decide)
          simp only [Nat.reducePow] at *
          omega
        simp only [iaddr_ints 0 h, load_l1', ea]
        generalize (sizes[i] % (2 ^ 8 : Nat)).toNat = k at hm
        have hrep : List.replicate k (V.int .u8 0) = bytV (List.replicate k 0) := by simp [bytV]
        have bs : ∀ (s : List UInt8) K, A.bslice 1 (.str []) 1 [(0, .str s)] K = K (.lst (strsV [s]) 2) := fun s K => rfl
        have bu : ∀ (s : List UInt8) K, A.build [.int .i64 0, .lst [] 1, .lst [] 1, .lst [] 1] [(0, 1, .int .i64 1), (2, 1, .lst (strsV [s]) 2)] K = K (.agg (nC 1 [] 1 [s] 2 [] 1)) := fun s K => rfl
        have stn : ∀ (s : List UInt8) K, A.store 4 (.ptr st.n 0) (.agg (nC 1 [] 1 [s] 2 [] 1)) (st.new (.cells (nC 0 [] 1 [] 1 [] 1))) K = K ((st.new (.cells (nC 0 [] 1 [] 1 [] 1))).put st.n (.cells (nC 1 [] 1 [s] 2 [] 1))) := fun s K => by
          rw [store_agg, new_at, obo_some]; simp [nC, Go.Ab.putL]
        have o1 := Old.newput st (.cells (nC 0 [] 1 [] 1 [] 1)) (.cells (nC 1 [] 1 [List.replicate k 0] 2 [] 1))
        have ob1 := put_at (st.new (.cells (nC 0 [] 1 [] 1 [] 1))) st.n (.cells (nC 1 [] 1 [List.replicate k 0] 2 [] 1))
        simp only [mksl_n (.int .u8 0) 1 k rfl (by omega) (by omega), hrep, toStr_bytV, bs, bu, box_zero, stn]
        generalize (st.new (.cells (nC 0 [] 1 [] 1 [] 1))).put st.n (.cells (nC 1 [] 1 [List.replicate k 0] 2 [] 1)) = st1 at o1 ob1
        generalize st.n = q at ob1
        have hj1 := hj.old o1
        have hld : ∀ K, A.load true 4 (.ptr q 0) st1 K = K (.agg (nC 1 [] 1 [List.replicate k 0] 2 [] 1)) st1 := fun K => by
          rw [load_obA, ob1, obo_some]; rfl
        have her : (V.agg (nC 1 [] 1 [List.replicate k 0] 2 [] 1)).er1 = noteV (roomN k) := rfl
        obtain ⟨n1, n2, n3⟩ := roomN_ok k hm
        unfold g4b111101001001
        have hfull := allN_full hG
        simp only [er1_ptr, jsize_s hj1, ret_ret, ext_0, ext_1, jnotes_s hj1, lenL_lst, notesV_len, hfull]
        unfold g4b11110100100111
        obtain ⟨st2, b2, w1, w2, w3⟩ := jwrite_s hj1 (roomN k) n1
        simp only [hld, er1_ptr, her, w1, ret_ret, jsize_s w2, ext_0, ext_1]
        unfold g4b1111010010011111
        have hfl := w2.full
        simp only [bin_gtr, show ¬ ((r : Int) < ((jwrite r (packsB G) (roomN k)).2.length : Int)) from by omega, decide_false, guard_ff]
        have hw : jwrite r (packsB G) (roomN k) = if r < (packsB G).length + (packB (roomN k)).length then (40, packsB G) else (0, packsB G ++ packB (roomN k)) := by unfold jwrite; rw [if_pos n2]
        by_cases hc : r < (packsB G).length + (packB (roomN k)).length
        · rw [if_pos hc] at hw
          rw [hw] at w2
          simp only [hw, eql_int, Bool.false_eq_true, if_false, show (((40 : Nat) : Int) == 0) = false from rfl, guardT_b, guard_ft]
          unfold g4b11110100100111110_21
          simp only [guard_ff, eql_int, if_true, show (((40 : Nat) : Int) != 0) = true from rfl, guardT_b, guard_tt, show (((40 : Nat) : Int) != 40) = false from rfl, bne_self_eq_false, er1_ptr, jnotes_s w2, hfull, ret_ret, lenL_lst, notesV_len, cond_false, e4]
          exact ih (i + 1) G b2 st2 (by omega) (by omega) hG (by omega) w2
        · rw [if_neg hc] at hw
          rw [hw] at w2
          have hG2 := hG.snoc n2 n3
          have e5 : packsB G ++ packB (roomN k) = packsB (G ++ [roomN k]) := (packsB_snoc _ _).symm
          have hfull2 := allN_full hG2
          have hpl := packB_len (roomN k)
          have hlen : (packsB (G ++ [roomN k])).length = (packsB G).length + (packB (roomN k)).length := by rw [← e5, List.length_append]
          rw [e5] at hw w2
          have ei : ∀ K, A.bin .add (.int .i64 (G.length : Nat)) (.int .i64 1) K = K (.int .i64 ((G.length + 1 : Nat) : Int)) := fun K => bin_inc (by omega) K
          have hgl : (G ++ [roomN k]).length = G.length + 1 := by simp
          simp only [hw, eql_int, Bool.false_eq_true, if_false, show (((0 : Nat) : Int) == 0) = true from rfl, guardT_b, guard_tt, bin_leq, show ¬ (((packsB (G ++ [roomN k])).length : Int) ≤ ((packsB G).length : Int)) from by omega, decide_false, guard_ff, er1_ptr, jnotes_s w2, hfull2, ret_ret, lenL_lst, notesV_len, ei, hgl, if_true, bne_self_eq_false]
          unfold g4b11110100100111110_21
          simp only [guard_ff, eql_int, if_true, show (((0 : Nat) : Int) != 0) = false from rfl, guardT_b, guard_ft, e4]
          exact ih (i + 1) (G ++ [roomN k]) b2 st2 (by omega) (by omega) hG2 (by omega) w2
      · simp only [show ¬ ((i : Int) < 60) from by omega, decide_false, cond_false, s11_val, ret_ret, er1_bool]
        exact ⟨_, rfl⟩
    · simp only [show ¬ ((i : Int) < (sizes.length : Int)) from by omega, decide_false, guard_ft, s11_val, ret_ret, er1_bool]
      exact ⟨_, rfl⟩
theorem journalRoom_law (room : Int) (sizes : List Int) (hl : sizes.length ≤ 9223372036854775807) (st : St) : ∃ st', s4 [.int .i64 room, .lst (intsV sizes) 0] st = some (.ret (.bool true), st') := by
  rw [s4_eq]
  unfold f4
  have ea : ∀ K, A.bin .and (.int .i64 room) (.int .i64 1023) K = K (.int .i64 (((room % (2 ^ 10 : Nat)).toNat : Nat) : Int)) := fun K => bin_andN 10 1023 rfl (by omega) K
  have hm : (room % (2 ^ 10 : Nat)).toNat < 1024 := by
    have := Int.emod_lt_of_pos room (show (0 : Int) < (2 ^ 10 : Nat) by decide)
    have := Int.emod_nonneg room (show ((2 ^ 10 : Nat) : Int) ≠ 0 by decide)
    simp only [Nat.reducePow] at *
    omega
  have eb : ∀ K, A.bin .add (.int .i64 1) (.int .i64 ((room % (2 ^ 10 : Nat)).toNat : Nat)) K = K (.int .i64 ((1 + (room % (2 ^ 10 : Nat)).toNat : Nat) : Int)) := fun K => bin_addN 1 _ K (by omega)
  simp only [ea, eb, er1_int, new_s (1 + (room % (2 ^ 10 : Nat)).toNat) (by omega) (by omega), ret_ret, ext_0, ext_1]
  unfold g4b111
  simp only [eql_int, if_true, bne_self_eq_false, guard_ff, eql_ptr, cond_false]
  unfold g4b1111
  have hj := new_at_j (1 + (room % (2 ^ 10 : Nat)).toNat) (by omega) (by omega) st
  exact room_loop sizes hl _ _ (by omega) big 0 [] _ _ (by omega) (by have := big_le; omega) (by intro n hn; cases hn) (by simp) hj
theorem journalRoom_row {W : World} {v0 v1 : Value} {x0 x1 : V} {n0 n1 : Nat}
    (r0 : Rs (E0 W) [x0] [v0]) (s0 : Sh Try.prog n0 3 x0.cells) (f0 : fit Try.prog 3 x0)
    (r1 : Rs (E0 W) [x1] [v1]) (s1 : Sh Try.prog n1 28 x1.cells) (f1 : fit Try.prog 28 x1) :
    Calls Try.prog 4 #[v0, v1] W fun e w' => e = .returned (.bool true) ∧ Below W.heap.size W w' := by
  obtain ⟨r, rfl, _⟩ := in_int s0 f0 Try.underlying3
  obtain ⟨xs, rfl, hx, _⟩ := in_ints s1 f1 Try.underlying28 Try.underlying3
  obtain ⟨st', hs⟩ := journalRoom_law r xs hx St0
  exact bool_row sim4 W _ _ _ hs (Rs.cons r0 r1)
end Go.Ab
