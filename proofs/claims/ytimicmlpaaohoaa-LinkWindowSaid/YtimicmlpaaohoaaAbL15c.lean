import Derived.Test.YtimicmlpaaohoaaAbL15b
/- sinew/link: Take. -/
namespace Go.Ab
open Go.Proofs Go.RowKit Go.Oct
set_option linter.unusedVariables false
set_option linter.unusedSimpArgs false
set_option maxRecDepth 100000
def OwnN (st : St) (sz t : Nat) : Prop := t = 1 ∨ t = 2 ∨ ∃ k, t = k + 3 ∧ k < st.nt ∧ st.tk k = some sz
structure LAt (st : St) (id t : Nat) (l : Lk) : Prop where
  ob : st.ob id = some (.cells (lkC l t))
  lt : id < st.n
  own : OwnN st 1 t
/-- One object is other, no right is. -/
structure TFr (st st' : St) (id : Nat) : Prop where
  tk : st'.tk = st.tk
  nt : st'.nt = st.nt
  n : st.n ≤ st'.n
  ob : ∀ i, i < st.n → i ≠ id → st'.ob i = st.ob i
theorem TFr.refl (st : St) (id : Nat) : TFr st st id := ⟨rfl, rfl, Nat.le_refl _, fun _ _ _ => rfl⟩
theorem TFr.new {a b : St} {id : Nat} (h : TFr a b id) (o : Ob) : TFr a (b.new o) id := ⟨h.tk, h.nt, by rw [new_n]; have := h.n; omega, fun i hi hd => by have := h.n; rw [new_ne _ _ (by omega)]; exact h.ob i hi hd⟩
theorem TFr.put {a b : St} {id j : Nat} (h : TFr a b id) (hj : j = id ∨ a.n ≤ j) (o : Ob) : TFr a (b.put j o) id := ⟨h.tk, h.nt, h.n, fun i hi hd => by rw [put_ne _ _ (by rcases hj with g | g <;> omega)]; exact h.ob i hi hd⟩
theorem TFr.own {st st' : St} {id sz t : Nat} (h : TFr st st' id) (ho : OwnN st sz t) : OwnN st' sz t := by
  rcases ho with g | g | ⟨k, g1, g2, g3⟩
  · exact .inl g
  · exact .inr (.inl g)
  · exact .inr (.inr ⟨k, g1, by rw [h.nt]; exact g2, by rw [h.tk]; exact g3⟩)
def nth (n : Note) (i : Nat) : Nat := (n.nums.getD i 0).toNat
/-- What a packet is. -/
structure Pkt (n : Note) : Prop where
  nums : ∀ x ∈ n.nums, 0 ≤ x ∧ x ≤ 4611686018427387903
  kind : (n.kind = 2 ∧ n.nums.length = 3) ∨ (n.kind = 1 ∧ n.nums.length = 4)
theorem one_nums {s : List UInt8} (h : oneO s = true) : ∀ x ∈ (oneN s).nums, 0 ≤ x ∧ x ≤ 4611686018427387903 := by
  unfold oneO at h
  simp only [Bool.and_eq_true, decide_eq_true_eq] at h
  have := (unp_back h.1).2
  simp only [packOK, Bool.and_eq_true] at this
  have hf := this.1
  unfold fitsW at hf
  simp only [Bool.and_eq_true, Bool.not_eq_true', decide_eq_false_iff_not, Int.not_lt, Nat.not_lt, decide_eq_true_eq] at hf
  obtain ⟨k1, k2, k3, k4, k5, k6, k7, k8⟩ := hf
  intro x hx
  have := List.any_eq_false.1 k5 x hx
  simp only [oddN, Bool.or_eq_true, decide_eq_true_eq, not_or, Int.not_lt] at this
  exact this
theorem rd_pkt {s : List UInt8} (h : (rdN s).2 = true) : Pkt (oneN s) := by
  unfold rdN at h
  split at h
  · rename_i h0
    refine ⟨one_nums h0.1, ?_⟩
    split at h
    · rename_i h1; exact .inl ⟨h1.1, h1.2.1⟩
    · split at h
      · rename_i h1; exact .inr ⟨h1.1, h1.2.1⟩
      · cases h
  · cases h
theorem Pkt.at {n : Note} (h : Pkt n) {i : Nat} (hi : i < n.nums.length) : n.nums[i] = ((nth n i : Nat) : Int) ∧ nth n i ≤ 4611686018427387903 := by
  obtain ⟨a, b⟩ := h.nums _ (List.getElem_mem hi)
  have e : nth n i = n.nums[i].toNat := by unfold nth; rw [List.getD_eq_getElem?_getD, List.getElem?_eq_getElem hi]; rfl
  exact ⟨by omega, by omega⟩
def freshP (l : Lk) (o : Nat) : Lk := if l.other < o then (if 0 < l.other then ⟨l.epoch, o, 1, 1, []⟩ else ⟨l.epoch, o, l.first, 1, l.q⟩) else l
def ackP (l : Lk) (w : Nat) : Lk := ⟨l.epoch, l.other, l.first + min (w - l.first) l.q.length, l.want, l.q.drop (min (w - l.first) l.q.length)⟩
def nextP (l : Lk) : Lk := ⟨l.epoch, l.other, l.first, l.want + 1, l.q⟩
/-- What Take does: the end, payloads, packets, whether the other one is new. -/
def takeP (l : Lk) (s : List UInt8) : Lk × List Note × List (List UInt8) × Bool :=
  if (rdN s).2 = false ∨ nth (oneN s) 0 < max l.other 1 then (l, [], [], false)
  else if nth (oneN s) 1 ≠ l.epoch then (freshP l (nth (oneN s) 0), [], [pkt (pk2 (freshP l (nth (oneN s) 0)))], decide (l.other < nth (oneN s) 0) && decide (0 < l.other))
  else if (oneN s).kind = 1 then
    (if nth (oneN s) 2 = (freshP l (nth (oneN s) 0)).want then (nextP (ackP (freshP l (nth (oneN s) 0)) (nth (oneN s) ((oneN s).nums.length - 1))), [(rdN s).1], [pkt (pk2 (nextP (ackP (freshP l (nth (oneN s) 0)) (nth (oneN s) ((oneN s).nums.length - 1)))))], decide (l.other < nth (oneN s) 0) && decide (0 < l.other))
     else (ackP (freshP l (nth (oneN s) 0)) (nth (oneN s) ((oneN s).nums.length - 1)), [], [pkt (pk2 (ackP (freshP l (nth (oneN s) 0)) (nth (oneN s) ((oneN s).nums.length - 1))))], decide (l.other < nth (oneN s) 0) && decide (0 < l.other)))
  else (ackP (freshP l (nth (oneN s) 0)) (nth (oneN s) ((oneN s).nums.length - 1)), [], [], decide (l.other < nth (oneN s) 0) && decide (0 < l.other))
/-- What a packet brought. -/
def cameV (ps : List Note) (ks : List (List UInt8)) (a : Bool) : V := .agg [.lst (notesV ps) 0, .lst (strsV ks) 0, .bool a]
def cC (ps : List Note) (u : Nat) (ks : List (List UInt8)) (w : Nat) (a : Bool) : List V := [.lst (notesV ps) u, .lst (strsV ks) w, .bool a]
theorem took {st : St} {c : Nat} {ps : List Note} {u : Nat} {ks : List (List UInt8)} {w : Nat} {a : Bool} (h : st.ob c = some (.cells (cC ps u ks w a))) :
    (A.load true 3 (.ptr c 0) st fun a z => A.store 3 (.ptr c 0) a z fun z' => A.res (rcell (A.load true 3 (.ptr c 0) z' kid) (some [])) z') = some (.ret (cameV ps ks a), st.put c (.cells (cC ps u ks w a))) := by
  have l1 : ∀ {st : St} (h : st.ob c = some (.cells (cC ps u ks w a))) (K : V → St → Res), A.load true 3 (.ptr c 0) st K = K (.agg (cC ps u ks w a)) st := fun {st} h K => by
    rw [load_obA, h, obo_some]; rfl
  have s1 : ∀ K, A.store 3 (.ptr c 0) (.agg (cC ps u ks w a)) st K = K (st.put c (.cells (cC ps u ks w a))) := fun K => by
    rw [store_agg, h, obo_some]; simp [cC, Go.Ab.putL]
  have her : (V.agg (cC ps u ks w a)).er1 = cameV ps ks a := rfl
  simp only [l1 h, s1, l1 (put_at st c _), kid_eq, rcell_some, res_one, her]
/-- Behind what a packet tells to have come. -/
theorem take_tail {st0 st : St} {id t c nn pp : Nat} {l : Lk} {n p : Note} {a : Bool} (h : st.ob id = some (.cells (lkC l t))) (hl : LkOK l) (hp : Pkt n) (hc : st.ob c = some (.cells (cC [] 1 [] 1 a))) (hn : st.ob nn = some (.cells (noteC n))) (hpp : st.ob pp = some (.cells (noteC p)))
    (hid : id < st0.n) (hc0 : st0.n ≤ c) (hn0 : st0.n ≤ nn) (hp0 : st0.n ≤ pp) (hcn : c ≠ nn) (hcp : c ≠ pp) (fr : TFr st0 st id) (hw : nth n 1 = l.epoch) :
    ∃ st', g19b11111 (.ptr id 0) (.ptr c 0) (.ptr nn 0) (.ptr pp 0) st = some (.ret (if n.kind = 1 then (if nth n 2 = l.want then cameV [p] [pkt (pk2 (nextP (ackP l (nth n (n.nums.length - 1)))))] a else cameV [] [pkt (pk2 (ackP l (nth n (n.nums.length - 1))))] a) else cameV [] [] a), st') ∧
      st'.ob id = some (.cells (lkC (if n.kind = 1 then (if nth n 2 = l.want then nextP (ackP l (nth n (n.nums.length - 1))) else ackP l (nth n (n.nums.length - 1))) else ackP l (nth n (n.nums.length - 1))) t)) ∧ TFr st0 st' id := by
  unfold g19b11111
  have hlen : 3 ≤ n.nums.length ∧ n.nums.length ≤ 4 := by rcases hp.kind with ⟨_, g⟩ | ⟨_, g⟩ <;> omega
  have m1 : ∀ {st : St} (h : st.ob nn = some (.cells (noteC n))) K, A.load false 1 (.ptr nn 1) st K = K (.lst (intsV n.nums) 0) st := fun {st} h K => by simp [h, noteC]
  have m0 : ∀ {st : St} (h : st.ob nn = some (.cells (noteC n))) K, A.load false 1 (.ptr nn 0) st K = K (.int .i64 n.kind) st := fun {st} h K => by simp [h, noteC]
  obtain ⟨l0, l1, l2, l3, l4⟩ := lload h
  have hlast : n.nums.length - 1 < n.nums.length := by omega
  obtain ⟨x1, x2⟩ := hp.at hlast
  have es : ∀ K, A.bin .sub (.int .i64 (n.nums.length : Nat)) (.int .i64 1) K = K (.int .i64 ((n.nums.length - 1 : Nat) : Int)) := fun K => bin_subN n.nums.length 1 K (by omega) (by omega)
  have hf := hl.f
  have hq := hl.q
  have ed : ∀ K, A.bin .sub (.int .i64 (nth n (n.nums.length - 1) : Nat)) (.int .i64 (l.first : Nat)) K = K (.int .i64 ((nth n (n.nums.length - 1) : Int) - (l.first : Int))) := fun K => bin_sub K (by omega) (by omega)
  have em : ∀ K, (A.min (.int .i64 ((nth n (n.nums.length - 1) : Int) - (l.first : Int))) (.int .i64 (l.q.length : Nat)) fun a17 => A.max (.int .i64 0) a17 K) = K (.int .i64 ((min (nth n (n.nums.length - 1) - l.first) l.q.length : Nat) : Int)) := fun K => by
    show K (.int .i64 (if (if (l.q.length : Int) < (nth n (n.nums.length - 1) : Int) - (l.first : Int) then (l.q.length : Int) else (nth n (n.nums.length - 1) : Int) - (l.first : Int)) > 0 then (if (l.q.length : Int) < (nth n (n.nums.length - 1) : Int) - (l.first : Int) then (l.q.length : Int) else (nth n (n.nums.length - 1) : Int) - (l.first : Int)) else 0)) = _
    congr 2
    split <;> split <;> omega
  simp only [faddr_ptr, Nat.zero_add, m1 hn, lenL_lst, intsV_len, es, iaddr_ints 0 hlast, x1, load_l1', nilc_ptr, l2, ed, l4, strsV_len, em]
  unfold g19b111111
  generalize hk : min (nth n (n.nums.length - 1) - l.first) l.q.length = k
  have hkl : k ≤ l.q.length := by omega
  have hsl : ∀ K, A.slice 1 (.lst (strsV l.q) t) (some (.int .i64 (k : Nat))) none none K = K (.lst (strsV (l.q.drop k)) t) := fun K => by
    rw [slice_from (strsV l.q) t 1 k K (by simpa using hkl) (szok_strs _)]
    simp [strsV, List.map_drop]
  have hack : ackP l (nth n (n.nums.length - 1)) = ⟨l.epoch, l.other, l.first + k, l.want, l.q.drop k⟩ := by unfold ackP; rw [hk]
  have sq : ∀ K, A.store 1 (.ptr id 4) (.lst (strsV (l.q.drop k)) t) st K = K (st.put id (.cells (lkC ⟨l.epoch, l.other, l.first, l.want, l.q.drop k⟩ t))) := fun K => by
    simp [h, lkC]
  have o1 := put_at st id (.cells (lkC ⟨l.epoch, l.other, l.first, l.want, l.q.drop k⟩ t))
  obtain ⟨k0, k1, k2, k3, k4⟩ := lload o1
  have ef : ∀ K, A.bin .add (.int .i64 (l.first : Nat)) (.int .i64 (k : Nat)) K = K (.int .i64 ((l.first + k : Nat) : Int)) := fun K => bin_addN _ _ K (by omega)
  have sf : ∀ K, A.store 1 (.ptr id 2) (.int .i64 (l.first + k : Nat)) (st.put id (.cells (lkC ⟨l.epoch, l.other, l.first, l.want, l.q.drop k⟩ t))) K = K (st.put id (.cells (lkC (ackP l (nth n (n.nums.length - 1))) t))) := fun K => by
    rw [hack]; simp [lkC]
  simp only [nilc_ptr, faddr_ptr, Nat.zero_add, l4, hsl, sq, k2, ef, sf]
  have fr1 := fr.put (.inl rfl) (.cells (lkC (ackP l (nth n (n.nums.length - 1))) t))
  have oi := put_at st id (.cells (lkC (ackP l (nth n (n.nums.length - 1))) t))
  have oc : (st.put id (.cells (lkC (ackP l (nth n (n.nums.length - 1))) t))).ob c = some (.cells (cC [] 1 [] 1 a)) := by rw [put_ne _ _ (by omega)]; exact hc
  have on : (st.put id (.cells (lkC (ackP l (nth n (n.nums.length - 1))) t))).ob nn = some (.cells (noteC n)) := by rw [put_ne _ _ (by omega)]; exact hn
  have op : (st.put id (.cells (lkC (ackP l (nth n (n.nums.length - 1))) t))).ob pp = some (.cells (noteC p)) := by rw [put_ne _ _ (by omega)]; exact hpp
  have hwant : (ackP l (nth n (n.nums.length - 1))).want = l.want := rfl
  have hwl := hl.w
  generalize st.put id (.cells (lkC (ackP l (nth n (n.nums.length - 1))) t)) = st1 at fr1 oi oc on op
  generalize ackP l (nth n (n.nums.length - 1)) = l2' at oi hwant
  unfold g19b11111111
  obtain ⟨j0, j1, j2, j3, j4⟩ := lload oi
  simp only [faddr_ptr, Nat.zero_add, m0 on, eql_int, Bool.false_eq_true, if_false, eq_int]
  have sc : ∀ {st : St} (ps : List Note) (u : Nat) (ho : st.ob c = some (.cells (cC ps u [] 1 a))) (ks : List (List UInt8)) K, A.store 1 (.ptr c 1) (.lst (strsV ks) 0) st K = K (st.put c (.cells (cC ps u ks 0 a))) := fun {st} ps u ho ks K => by
    simp [ho, cC]
  by_cases h1 : n.kind = 1
  · have h4 : 2 < n.nums.length := by omega
    obtain ⟨y1, y2⟩ := hp.at h4
    simp only [h1, decide_true, cond_true, m1 on, iaddr_ints 0 h4, y1, load_l1', nilc_ptr, faddr_ptr, Nat.zero_add, j3, hwant, eql_int, Bool.false_eq_true, if_false, eq_nat, if_true]
    have ia2 : ∀ K, A.iaddr 1 (.lst (intsV n.nums) 0) (.int .i64 2) K = K (.lptr [.int .i64 n.nums[2]]) := fun K => iaddr_ints 0 h4 K
    simp only [ia2, y1, load_l1', nilc_ptr, faddr_ptr, Nat.zero_add, j3, hwant, eql_int, Bool.false_eq_true, if_false, eq_nat]
    unfold g19b1111111101001
    by_cases h2 : nth n 2 = l.want
    · have bs : ∀ K, A.bslice 4 (.agg [.int .i64 0, .lst [] 1, .lst [] 1, .lst [] 1]) 1 [(0, .agg (noteC p))] K = K (.lst (notesV [p]) 2) := fun K => bslice_note p K
      have sp : ∀ K, A.store 1 (.ptr c 0) (.lst (notesV [p]) 2) st1 K = K (st1.put c (.cells (cC [p] 2 [] 1 a))) := fun K => by simp [oc, cC]
      have oi2 : (st1.put c (.cells (cC [p] 2 [] 1 a))).ob id = some (.cells (lkC l2' t)) := by rw [put_ne _ _ (by omega)]; exact oi
      obtain ⟨i0, i1, i2, i3, i4⟩ := lload oi2
      have ew : ∀ K, A.bin .add (.int .i64 (l.want : Nat)) (.int .i64 1) K = K (.int .i64 ((l.want + 1 : Nat) : Int)) := fun K => bin_inc (by omega) K
      have sw : ∀ K, A.store 1 (.ptr id 3) (.int .i64 (l.want + 1 : Nat)) (st1.put c (.cells (cC [p] 2 [] 1 a))) K = K ((st1.put c (.cells (cC [p] 2 [] 1 a))).put id (.cells (lkC (nextP l2') t))) := fun K => by
        rw [show (l.want + 1 : Nat) = l2'.want + 1 by rw [hwant]]
        simp [oi2, lkC, nextP]
      have oi3 := put_at (st1.put c (.cells (cC [p] 2 [] 1 a))) id (.cells (lkC (nextP l2') t))
      have oc3 : ((st1.put c (.cells (cC [p] 2 [] 1 a))).put id (.cells (lkC (nextP l2') t))).ob c = some (.cells (cC [p] 2 [] 1 a)) := by rw [put_ne _ _ (by omega)]; exact put_at _ _ _
      have fr3 := (fr1.put (.inr hc0) (.cells (cC [p] 2 [] 1 a))).put (.inl rfl) (.cells (lkC (nextP l2') t))
      simp only [h2, decide_true, cond_true, load_noteb op, bs, faddr_ptr, Nat.zero_add, sp, nilc_ptr, i3, hwant, ew, sw, er1_ptr, if_true]
      generalize (st1.put c (.cells (cC [p] 2 [] 1 a))).put id (.cells (lkC (nextP l2') t)) = st3 at oi3 oc3 fr3
      simp only [lstands_s oi3, ret_ret, faddr_ptr, Nat.zero_add, sc [p] 2 oc3, took (put_at _ _ _)]
      exact ⟨_, rfl, by rw [put_ne _ _ (by omega), put_ne _ _ (by omega)]; exact oi3, (fr3.put (.inr hc0) _).put (.inr hc0) _⟩
    · simp only [h2, decide_false, cond_false, er1_ptr, lstands_s oi, ret_ret, faddr_ptr, Nat.zero_add, sc [] 1 oc, took (put_at _ _ _), if_false]
      exact ⟨_, rfl, by rw [put_ne _ _ (by omega), put_ne _ _ (by omega)]; exact oi, (fr1.put (.inr hc0) _).put (.inr hc0) _⟩
  · simp only [h1, decide_false, cond_false, took oc, if_false]
    exact ⟨_, rfl, by rw [put_ne _ _ (by omega)]; exact oi, fr1.put (.inr hc0) _⟩
end Go.Ab
