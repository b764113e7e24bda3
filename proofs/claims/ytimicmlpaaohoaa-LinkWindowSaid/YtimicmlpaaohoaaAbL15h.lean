import Derived.Test.YtimicmlpaaohoaaAbL15g
/- Two ends; sinewlaw15.LinkWindow. -/
namespace Go.Ab
open Go.Proofs Go.RowKit Go.Oct
set_option linter.unusedVariables false
set_option linter.unusedSimpArgs false
set_option maxRecDepth 100000
structure Two (st : St) (ia ta : Nat) (a : Lk) (ib tb : Nat) (b : Lk) : Prop where
  pa : LAt st ia ta a
  pb : LAt st ib tb b
  oa : LkOK a
  ob : LkOK b
  ne : ia ≠ ib
  tk : ta ≤ 2 ∨ ta ≠ tb
theorem Two.swap {st : St} {ia ta ib tb : Nat} {a b : Lk} (h : Two st ia ta a ib tb b) : Two st ib tb b ia ta a :=
  ⟨h.pb, h.pa, h.ob, h.oa, h.ne.symm, by rcases h.tk with g | g <;> omega⟩
theorem LAt.bound {st : St} {id t : Nat} {l : Lk} (h : LAt st id t l) : t < st.nt + 3 := by
  rcases h.own with g | g | ⟨k, g1, g2, _⟩ <;> omega
theorem Two.kp {st st' : St} {ia ta ib tb : Nat} {a b : Lk} (h : Two st ia ta a ib tb b) (hn : st.n ≤ st'.n) (hob : ∀ i, i < st.n → st'.ob i = st.ob i) (htk : st'.tk = st.tk) (hnt : st'.nt = st.nt) : Two st' ia ta a ib tb b := by
  have own : ∀ {u : Nat}, OwnN st 1 u → OwnN st' 1 u := fun {u} ho => by
    rcases ho with g | g | ⟨k, g1, g2, g3⟩
    · exact .inl g
    · exact .inr (.inl g)
    · exact .inr (.inr ⟨k, g1, by rw [hnt]; exact g2, by rw [htk]; exact g3⟩)
  exact ⟨⟨by rw [hob _ h.pa.lt]; exact h.pa.ob, by have := h.pa.lt; omega, own h.pa.own⟩, ⟨by rw [hob _ h.pb.lt]; exact h.pb.ob, by have := h.pb.lt; omega, own h.pb.own⟩, h.oa, h.ob, h.ne, h.tk⟩
theorem Two.take {st : St} {ia ta ib tb : Nat} {a b : Lk} (h : Two st ia ta a ib tb b) (s : List UInt8) (hs : s.length ≤ 9223372036854775807) (hok : LkOK (takeP a s).1) :
    ∃ st' t', s19 [.ptr ia 0, .str s] st = some (.ret (cameV (takeP a s).2.1 (takeP a s).2.2.1 (takeP a s).2.2.2), st') ∧ Two st' ia t' (takeP a s).1 ib tb b ∧ TFr st st' ia ∧ (t' = ta ∨ t' = 1) := by
  obtain ⟨st', t', q1, q2, q3, q4⟩ := take_s h.pa h.oa s hs
  refine ⟨st', t', q1, ⟨q2, ⟨by rw [q3.ob ib h.pb.lt (Ne.symm h.ne)]; exact h.pb.ob, by have := q3.n; have := h.pb.lt; omega, q3.own h.pb.own⟩, hok, h.ob, h.ne, by rcases h.tk with g | g <;> rcases q4 with g' | g' <;> omega⟩, q3, q4⟩
theorem Two.put {st : St} {ia ta ib tb : Nat} {a b : Lk} (h : Two st ia ta a ib tb b) (n : Note) (hn : NoteOK n) (hok : LkOK (putP a n).1) :
    ∃ st' t', s13 [.ptr ia 0, noteV n] st = some (.ret (.tup [.lst (strsV (putP a n).2.1) (tokP (putP a n).2.1), .int .i64 ((putP a n).2.2 : Nat)]), st') ∧ Two st' ia t' (putP a n).1 ib tb b ∧ PFr st st' ia ta t' := by
  obtain ⟨st', t', q1, q2, q3⟩ := lput_s h.pa h.oa n hn
  have hb := h.pb.bound
  refine ⟨st', t', q1, ⟨q2, ⟨by rw [q3.ob ib h.pb.lt (Ne.symm h.ne)]; exact h.pb.ob, by have := q3.n; have := h.pb.lt; omega, q3.own h.pb.own (by rcases h.tk with g | g <;> omega)⟩, hok, h.ob, h.ne, ?_⟩, q3⟩
  rcases q3.tt with g | g | g
  · rw [g]; exact h.tk
  · exact .inl g
  · right; omega
/-- A payload of one number. -/
def payN (k : Int) (i : Nat) : Note := ⟨k, [(i : Int)], [], []⟩
theorem pay_ok (k : Int) (i : Nat) (h1 : 1 ≤ k) (h2 : k ≤ 255) (hi : i ≤ 1000000) : NoteOK (payN k i) ∧ packOK (payN k i) = true ∧ (payN k i).texts.length + lens (payN k i).rows ≤ 4096 ∧ (packB (payN k i)).length ≤ 100 := by
  have ho := odd_nat (k := i) (by omega)
  have hf : fitsW (payN k i) = true := by
    have c1 : ¬ (k < 1) := by omega
    have c2 : ¬ (255 < k) := by omega
    simp [fitsW, payN, greatF, manyF, ho, c1, c2]
  have hb : (bodyB (payN k i)).length ≤ 64 := by
    have a1 := putN_len9 k.toNat
    have a2 := putN_len9 (payN k i).nums.length
    have a3 := putN_len9 0
    have a4 := numsB_len (payN k i).nums
    have a5 := listB_len2 (l := []) (by simp)
    have a6 : (payN k i).nums.length = 1 := rfl
    simp only [List.length_nil] at a5
    show (headB (payN k i) ++ rowsB (payN k i).rows).length ≤ 64
    unfold headB
    simp only [show (payN k i).rows = [] from rfl, show (payN k i).texts = [] from rfl, show (payN k i).kind = k from rfl, rowsB, List.flatMap_nil, List.length_append, List.length_nil, List.append_nil]
    omega
  exact ⟨⟨by simp [payN], by simp [payN], by simp [payN], by simp [payN]⟩, by simp [packOK, hf]; omega, by simp [payN, lens], by rw [packB_len]; omega⟩
theorem put_pay {l : Lk} {n : Note} (hp : packOK n = true) (hlen : (packB n).length ≤ 32768) (hq : l.q.length < 4096) : putP l n = (⟨l.epoch, l.other, l.first, l.want, l.q ++ [packB n]⟩, (if 64 < l.q.length + 1 then [] else [pkt (pk1 ⟨l.epoch, l.other, l.first, l.want, l.q ++ [packB n]⟩ l.q.length)]), 0) := by
  unfold putP
  rw [if_neg (by rw [hp]; simp; omega), if_neg (by omega)]
  split <;> rfl
def paysQ (k : Int) (n : Nat) : List (List UInt8) := (List.range n).map fun j => packB (payN k j)
theorem paysQ_len (k : Int) (n : Nat) : (paysQ k n).length = n := by simp [paysQ]
theorem paysQ_snoc (k : Int) (n : Nat) : paysQ k n ++ [packB (payN k n)] = paysQ k (n + 1) := by
  unfold paysQ; rw [List.range_succ, List.map_append]; rfl
theorem paysQ_at (k : Int) (n d j : Nat) (h : d + j < n) : ((paysQ k n).drop d).getD j [] = packB (payN k (d + j)) := by
  unfold paysQ
  rw [List.getD_eq_getElem?_getD, List.getElem?_drop, List.getElem?_map, List.getElem?_range h]; rfl
theorem pkt_len (n : Note) : (pkt n).length ≤ 1048584 := by
  unfold pkt
  split
  · rename_i h; exact packB_le h
  · simp
/-- The payload's note, built. -/
theorem pay_built (i : Nat) (K : V → Res) : (A.bslice 1 (.int .i64 0) 1 [(0, .int .i64 (i : Nat))] fun a2 => A.build [.int .i64 0, .lst [] 1, .lst [] 1, .lst [] 1] [(0, 1, .int .i64 5), (1, 1, a2)] K) = K (.agg (nC 5 [(i : Int)] 2 [] 1 [] 1)) := rfl
theorem pay_er1 (i : Nat) : (V.agg (nC 5 [(i : Int)] 2 [] 1 [] 1)).er1 = noteV (payN 5 i) := rfl
/-- What came, put into a cell. -/
theorem came_box (st : St) (ps : List Note) (ks : List (List UInt8)) (a : Bool) (K : V → St → Res) : (A.box (.agg [.lst [] 1, .lst [] 1, .bool false]) st fun a8 z9 => A.store 3 a8 (cameV ps ks a) z9 fun z10 => K a8 z10) = K (.ptr st.n 0) ((st.new (.cells (cC [] 1 [] 1 false))).put st.n (.cells (cC ps 0 ks 0 a))) := by
  show (A.store 3 (.ptr st.n 0) (cameV ps ks a) (st.new (.cells (cC [] 1 [] 1 false))) fun z10 => K (.ptr st.n 0) z10) = _
  unfold cameV
  rw [store_agg, new_at, obo_some]; simp [cC, Go.Ab.putL]
theorem came_ld {st : St} {c : Nat} {ps : List Note} {ks : List (List UInt8)} {a : Bool} (h : st.ob c = some (.cells (cC ps 0 ks 0 a))) : (∀ K, A.load false 1 (.ptr c 0) st K = K (.lst (notesV ps) 0) st) ∧ (∀ K, A.load false 1 (.ptr c 1) st K = K (.lst (strsV ks) 0) st) ∧ (∀ K, A.load false 1 (.ptr c 2) st K = K (.bool a) st) := by
  refine ⟨fun K => ?_, fun K => ?_, fun K => ?_⟩ <;> simp [h, cC]
/-- The ends of a window, behind so many. -/
def wA (n at_ : Nat) : Lk := ⟨1, 1, 1 + at_, 1, (paysQ 5 n).drop at_⟩
def wB (at_ : Nat) : Lk := ⟨1, 1, 1, 1 + at_, []⟩
theorem wA_ok (n at_ : Nat) (hn : n ≤ 1000) (h : at_ ≤ n) : LkOK (wA n at_) := ⟨by simp [wA], by simp [wA], by simp [wA], by simp [wA]; omega, by simp [wA], by simp [wA, paysQ_len]; omega⟩
theorem wB_ok (at_ : Nat) (h : at_ ≤ 1000) : LkOK (wB at_) := ⟨by simp [wB], by simp [wB], by simp [wB], by simp [wB], by simp [wB]; omega, by simp [wB]⟩
theorem win_take (n at0 j : Nat) (hn : n ≤ 1000) (h : at0 + j < n) : takeP (wB (at0 + j)) (pkt (pk1 (wA n at0) j)) = (wB (at0 + j + 1), [payN 5 (at0 + j)], [pkt (pk2 (wB (at0 + j + 1)))], false) := by
  obtain ⟨a, b, c, d⟩ := pay_ok 5 (at0 + j) (by omega) (by omega) (by omega)
  have hl := paysQ_len 5 n
  have := take_full (l := wB (at0 + j)) (wA_ok n at0 hn (by omega)) (k := j) (by simp [wA, hl]; omega) (paysQ_at 5 n at0 j h) b c (by omega) (by simp [wA, wB])
  rw [this]
  have f : freshP (wB (at0 + j)) (wA n at0).epoch = wB (at0 + j) := by unfold freshP; rw [if_neg (by simp [wA, wB])]
  have g : ackP (wB (at0 + j)) (wA n at0).want = wB (at0 + j) := by unfold ackP; simp [wB]
  rw [if_neg (by simp [wA, wB]), f, g, if_pos (by simp [wA, wB]; omega)]
  have e : nextP (wB (at0 + j)) = wB (at0 + j + 1) := by simp [nextP, wB]; omega
  rw [e]
  simp [wA, wB]
theorem win_ack (n at_ : Nat) (hn : n ≤ 1000) (h : at_ < n) : takeP (wA n at_) (pkt (pk2 (wB (at_ + 1)))) = (wA n (at_ + 1), [], [], false) := by
  have hl := paysQ_len 5 n
  have := take_bare (l := wA n at_) (wB_ok (at_ + 1) (by omega)) (by simp [wA, wB])
  rw [this]
  have f : freshP (wA n at_) (wB (at_ + 1)).epoch = wA n at_ := by unfold freshP; rw [if_neg (by simp [wA, wB])]
  have g : ackP (wA n at_) (wB (at_ + 1)).want = wA n (at_ + 1) := by
    have e : min ((wB (at_ + 1)).want - (wA n at_).first) (wA n at_).q.length = 1 := by simp [wA, wB, hl]; omega
    unfold ackP
    rw [e]
    simp only [wA, List.drop_drop, Lk.mk.injEq, true_and]
    exact ⟨by omega, trivial⟩
  rw [if_neg (by simp [wA, wB]), f, g]
  simp [wA, wB]
theorem win_inner (n : Nat) (hn : n ≤ 199) (at0 : Nat) (h0 : at0 ≤ n) (m : Nat) (hm : m = min (n - at0) 64) (L : V → V → V → V → V → St → Res) (r : V) (ia ib : Nat) : ∀ (f j : Nat) (ta tb : Nat) (st : St), j ≤ m → m < f + j → Two st ia ta (wA n (at0 + j)) ib tb (wB (at0 + j)) →
    ∃ st' ta' tb', g8b1111111101001001110 L f (.ptr ia 0) (.ptr ib 0) (.int .i64 (n : Nat)) (.int .i64 (at0 + j : Nat)) r (.lst (strsV (tickP (wA n at0))) 0) (.int .i64 (j : Nat)) st = (A.bin .add r (.int .i64 1) fun a11 => L (.ptr ia 0) (.ptr ib 0) (.int .i64 (n : Nat)) (.int .i64 (at0 + m : Nat)) a11 st') ∧ Two st' ia ta' (wA n (at0 + m)) ib tb' (wB (at0 + m)) := by
  have hl := paysQ_len 5 n
  have htl : (tickP (wA n at0)).length = m := by
    unfold tickP
    rw [List.length_map, List.length_range]
    simp only [wA, List.length_drop, hl]; omega
  intro f
  induction f with
  | zero => intro j ta tb st hj hf; omega
  | succ f ih =>
    intro j ta tb st hj hf h
    unfold g8b1111111101001001110
    by_cases hlt : j < m
    · have hjl : j < (tickP (wA n at0)).length := by omega
      have hget : (tickP (wA n at0))[j] = pkt (pk1 (wA n at0) j) := by simp [tickP]
      have e4 : ∀ K, A.bin .add (.int .i64 (j : Nat)) (.int .i64 1) K = K (.int .i64 ((j + 1 : Nat) : Int)) := fun K => bin_inc (by omega) K
      have e5 : ∀ K, A.bin .add (.int .i64 (at0 + j : Nat)) (.int .i64 1) K = K (.int .i64 ((at0 + (j + 1) : Nat) : Int)) := fun K => by rw [bin_inc (by omega)]; rfl
      have hw := win_take n at0 j (by omega) (by omega)
      obtain ⟨st1, tb1, q1, q2, q3, _⟩ := h.swap.take (pkt (pk1 (wA n at0) j)) (by have := pkt_len (pk1 (wA n at0) j); omega) (by rw [hw]; exact wB_ok _ (by omega))
      rw [hw] at q1 q2
      simp only [lenL_lst, strsV_len, htl, bin_lss, show ((j : Int) < (m : Int)) from by omega, decide_true, cond_true, iaddr_strs 0 hjl, hget, load_l1', er1_ptr, er1_str, q1, ret_ret, came_box]
      have kk : Two ((st1.new (.cells (cC [] 1 [] 1 false))).put st1.n (.cells (cC [payN 5 (at0 + j)] 0 [pkt (pk2 (wB (at0 + j + 1)))] 0 false))) ib tb1 (wB (at0 + j + 1)) ia ta (wA n (at0 + j)) :=
        q2.kp (by simp) (fun i hi => by rw [put_ne _ _ (by omega), new_ne _ _ (by omega)]) rfl rfl
      have oc := put_at (st1.new (.cells (cC [] 1 [] 1 false))) st1.n (.cells (cC [payN 5 (at0 + j)] 0 [pkt (pk2 (wB (at0 + j + 1)))] 0 false))
      generalize (st1.new (.cells (cC [] 1 [] 1 false))).put st1.n (.cells (cC [payN 5 (at0 + j)] 0 [pkt (pk2 (wB (at0 + j + 1)))] 0 false)) = st2 at kk oc
      generalize st1.n = c at oc
      obtain ⟨c0, c1, c2⟩ := came_ld oc
      have ia0 : ∀ K, A.iaddr 4 (.lst (notesV [payN 5 (at0 + j)]) 0) (.int .i64 0) K = K (.lptr (noteC (payN 5 (at0 + j)))) := fun K => iaddr_notes (l := [payN 5 (at0 + j)]) (i := 0) 0 (by simp) K
      have lp : ∀ K, (A.faddr 1 (.lptr (noteC (payN 5 (at0 + j)))) fun a10 => A.load false 1 a10 st2 K) = K (.lst (intsV [((at0 + j : Nat) : Int)]) 0) st2 := fun K => rfl
      have i0 : ∀ K, A.iaddr 1 (.lst (intsV [((at0 + j : Nat) : Int)]) 0) (.int .i64 0) K = K (.lptr [.int .i64 ((at0 + j : Nat) : Int)]) := fun K => rfl
      have s0 : ∀ K, A.iaddr 1 (.lst (strsV [pkt (pk2 (wB (at0 + j + 1)))]) 0) (.int .i64 0) K = K (.lptr [.str (pkt (pk2 (wB (at0 + j + 1))))]) := fun K => rfl
      have nl : (notesV [payN 5 (at0 + j)]).length = 1 := rfl
      unfold g8b111111110100100111001001
      simp only [faddr_ptr, Nat.zero_add, c0, lenL_lst, nl, eql_int, if_true, show (((1 : Nat) : Int) != 1) = false from rfl, guard_ff, ia0, lp, i0, load_l1', bne_self_eq_false]
      unfold g8b11111111010010011100100100_16
      have ha := win_ack n (at0 + j) (by omega) (by omega)
      obtain ⟨st3, ta3, r1, r2, r3, _⟩ := kk.swap.take (pkt (pk2 (wB (at0 + j + 1)))) (by have := pkt_len (pk2 (wB (at0 + j + 1))); omega) (by rw [ha]; exact wA_ok _ _ (by omega) (by omega))
      rw [ha] at r1 r2
      have sl1 : (strsV [pkt (pk2 (wB (at0 + j + 1)))]).length = 1 := rfl
      simp only [guard_ff, faddr_ptr, Nat.zero_add, c1, lenL_lst, sl1, eql_int, if_true, show (((1 : Nat) : Int) != 1) = false from rfl, bne_self_eq_false, cond_false, e5, s0, load_l1', er1_ptr, er1_str, r1, ret_ret, e4]
      exact ih (j + 1) ta3 tb1 st3 (by omega) (by omega) r2
    · have : j = m := by omega
      subst this
      simp only [lenL_lst, strsV_len, htl, bin_lss, Int.lt_irrefl, decide_false, cond_false]
      exact ⟨st, ta, tb, rfl, h⟩
theorem win_rounds (n : Nat) (hn : n ≤ 199) (ia ib : Nat) : ∀ (f r at_ ta tb : Nat) (st : St), r ≤ 8 → 8 < f + r → at_ ≤ n → (64 * r ≤ at_ ∨ at_ = n) → Two st ia ta (wA n at_) ib tb (wB at_) →
    ∃ st', g8b11111111010 f (.ptr ia 0) (.ptr ib 0) (.int .i64 (n : Nat)) (.int .i64 (at_ : Nat)) (.int .i64 (r : Nat)) st = some (.ret (.bool true), st') := by
  have hl := paysQ_len 5 n
  intro f
  induction f with
  | zero => intro r at_ ta tb st hr hf; omega
  | succ f ih =>
    intro r at_ ta tb st hr hf ha hor h
    unfold g8b11111111010
    have hq : (wA n at_).q.length = n - at_ := by simp [wA, hl]
    have e1 := (wA_ok n at_ (by omega) ha).e1
    by_cases hlt : r < 8
    · have htl : (tickP (wA n at_)).length = min (n - at_) 64 := by
        unfold tickP; rw [List.length_map, List.length_range, hq]
      have em : ∀ K, A.min (.int .i64 64) (.int .i64 (n - at_ : Nat)) K = K (.int .i64 ((min (n - at_) 64 : Nat) : Int)) := fun K => by
        show K (.int .i64 (if ((n - at_ : Nat) : Int) < 64 then ((n - at_ : Nat) : Int) else 64)) = _
        congr 2
        split <;> omega
      have es : ∀ K, A.bin .sub (.int .i64 (n : Nat)) (.int .i64 (at_ : Nat)) K = K (.int .i64 ((n - at_ : Nat) : Int)) := fun K => bin_subN n at_ K ha (by omega)
      have e4 : ∀ K, A.bin .add (.int .i64 (r : Nat)) (.int .i64 1) K = K (.int .i64 ((r + 1 : Nat) : Int)) := fun K => bin_inc (by omega) K
      simp only [bin_lss, show ((r : Int) < 8) from by omega, decide_true, cond_true, er1_ptr, ltick_s h.pa h.oa, ret_ret, lenL_lst, strsV_len, htl, lwaits_s h.pa e1, hq, em, eql_int, if_true, bne_self_eq_false, guard_ff, es, cond_false]
      unfold g8b11111111010010011
      obtain ⟨st', ta', tb', q1, q2⟩ := win_inner n hn at_ ha (min (n - at_) 64) rfl (g8b11111111010 f) (.int .i64 (r : Nat)) ia ib big 0 ta tb st (by omega) (lt_big (by omega)) h
      rw [Nat.add_zero, show ((0 : Nat) : Int) = 0 from rfl] at q1
      rw [q1, e4]
      exact ih (r + 1) _ ta' tb' st' (by omega) (by omega) (by omega) (by omega) q2
    · have hat : at_ = n := by omega
      subst hat
      have hq0 : (wA at_ at_).q.length = 0 := by rw [hq]; omega
      simp only [bin_lss, show ¬ ((r : Int) < 8) from by omega, decide_false, cond_false, eql_int, Bool.false_eq_true, if_false, beq_self_eq_true, guard_tt, er1_ptr, lwaits_s h.pa e1, hq0, ret_ret, Int.natCast_zero, s11_val, er1_bool]
      exact ⟨_, rfl⟩
end Go.Ab
