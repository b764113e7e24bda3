import Derived.Test.YtjmkmfolpimieaaAbF16d
/- sinewlaw16: FieldTo. -/
namespace Go.Ab
open Go.Proofs Go.RowKit
set_option linter.unusedVariables false
set_option linter.unusedSimpArgs false
set_option maxRecDepth 100000
theorem rise_inj {ps : List Pk} (h : ps.Pairwise (fun p q => p.id < q.id)) {p q : Pk} (hp : p ∈ ps) (hq : q ∈ ps) (e : p.id = q.id) : p = q := by
  obtain ⟨i, hi, rfl⟩ := List.getElem_of_mem hp
  obtain ⟨j, hj, rfl⟩ := List.getElem_of_mem hq
  rw [List.pairwise_iff_getElem] at h
  rcases Nat.lt_trichotomy i j with g | g | g
  · have := h i j hi hj g; omega
  · subst g; rfl
  · have := h j i hj hi g; omega
theorem find_mem {ps : List Pk} (h : ps.Pairwise (fun p q => p.id < q.id)) {p : Pk} (hp : p ∈ ps) : ∃ i, findP (p.id : Int) ps 0 = some (i, p) := by
  cases hq : findP (p.id : Int) ps 0 with
  | none => exact absurd rfl (findP_none hq p hp)
  | some q =>
    obtain ⟨i, q⟩ := q
    obtain ⟨_, h2, h3⟩ := findP_some hq
    have := rise_inj h (List.mem_of_getElem? h2) hp (by omega)
    subst this
    exact ⟨i, rfl⟩
theorem erase_filter {x : Int} : ∀ {ps : List Pk} {j i : Nat} {p : Pk}, ps.Pairwise (fun p q => p.id < q.id) → findP x ps j = some (i, p) → ps.eraseIdx (i - j) = ps.filter (fun q => decide ((q.id : Int) ≠ x))
  | [], j, i, p, _, h => by cases h
  | q :: l, j, i, p, hr, h => by
    rw [List.pairwise_cons] at hr
    unfold findP at h
    split at h
    · rename_i e
      cases h
      subst e
      rw [Nat.sub_self, List.eraseIdx_cons_zero, List.filter_cons_of_neg (by simp)]
      exact (List.filter_eq_self.2 (fun r hr' => by have := hr.1 r hr'; simp; omega)).symm
    · rename_i e
      obtain ⟨h1, _, _⟩ := findP_some h
      have := erase_filter hr.2 h
      rw [show i - j = (i - (j + 1)) + 1 by omega, List.eraseIdx_cons_succ, this, List.filter_cons_of_pos (by simpa using fun g => e g.symm)]
theorem arr_mem {f : Fd} (h : FOK f) {p : Pk} (hp : p ∈ f.ps) : arrF f (p.id : Int) = (⟨f.nodes, f.last, f.ps.filter (fun q => decide (q.id ≠ p.id))⟩, p, 0) := by
  obtain ⟨i, hi⟩ := find_mem h.rise hp
  unfold arrF
  rw [hi]
  have := erase_filter h.rise hi
  rw [Nat.sub_zero] at this
  simp only [this]
  congr 2
  refine List.filter_congr fun q _ => ?_
  rw [decide_eq_decide]; omega
theorem toK_mem {f : Fd} (h : FOK f) (k : Int) {p : Pk} (hp : p ∈ f.ps) : toK f k (p.id : Int) = (p.to == k) := by
  obtain ⟨i, hi⟩ := find_mem h.rise hp
  unfold toK
  rw [findR_at hi]
theorem toK_ids {f : Fd} (h : FOK f) (k : Int) : (idsP f.ps).filter (toK f k) = idsP (f.ps.filter fun p => p.to == k) := by
  unfold idsP
  rw [List.filter_map]
  congr 1
  exact List.filter_congr fun p hp => toK_mem h k hp
/-- All go to nodes that are. -/
def InN (f : Fd) : Prop := ∀ p ∈ f.ps, 0 ≤ p.to ∧ p.to < f.nodes
theorem InN.send {f : Fd} (h : InN f) (a b : Int) (s : List UInt8) : InN (sendF f a b s).1 ∧ (sendF f a b s).1.nodes = f.nodes := by
  unfold sendF
  split
  · rename_i hok
    refine ⟨fun p hp => ?_, rfl⟩
    rcases List.mem_append.1 hp with g | g
    · exact h p g
    · rw [List.mem_singleton.1 g]
      unfold okS at hok
      simp only [Bool.and_eq_true, decide_eq_true_eq] at hok
      exact hok.1.2
  · exact ⟨h, rfl⟩
theorem InN.copy {f : Fd} (h : InN f) (x : Int) : InN (copyF f x).1 ∧ (copyF f x).1.nodes = f.nodes := by
  unfold copyF
  split
  · exact h.send _ _ _
  · exact ⟨h, rfl⟩
theorem InN.arr {f : Fd} (h : InN f) (x : Int) : InN (arrF f x).1 ∧ (arrF f x).1.nodes = f.nodes := by
  unfold arrF
  split
  · exact ⟨fun q hq => h q ((List.eraseIdx_sublist _ _).mem hq), rfl⟩
  · exact ⟨h, rfl⟩
theorem arrF_last (f : Fd) (x : Int) : (arrF f x).1.last = f.last := by unfold arrF; split <;> rfl
theorem to_step {st : St} {d m : Nat} {f : Fd} (h : FAt st d m f) (hin : InN f) {xs : List Int} (t : Nat) {i : Nat} (hi : i < xs.length) (hi2 : i < 100) (hl : f.last ≤ i) (L : V → V → V → St → Res) :
    ∃ st' f', g6b11101001 L (.lst (intsV xs) t) (.ptr d 0) (.int .i64 (i : Nat)) st = L (.lst (intsV xs) t) (.ptr d 0) (.int .i64 ((i + 1 : Nat) : Int)) st' ∧ FAt st' d m f' ∧ InN f' ∧ f'.nodes = f.nodes ∧ f'.last ≤ i + 1 := by
  unfold g6b11101001
  have e4 : ∀ K, A.bin .add (.int .i64 (i : Nat)) (.int .i64 1) K = K (.int .i64 ((i + 1 : Nat) : Int)) := fun K => bin_inc (by omega) K
  have hw := low_lt 65536 xs[i] (by omega)
  simp only [iaddr_ints t hi, load_l1', bin_and65535, bin_and3, eql_int, Bool.false_eq_true, if_false]
  generalize low 65536 xs[i] = w at hw ⊢
  have hx2 : -9223372036854775808 ≤ ((w / 2 ^ 2 : Nat) : Int) ∧ ((w / 2 ^ 2 : Nat) : Int) ≤ 9223372036854775807 := by
    have : w / 2 ^ 2 ≤ w := Nat.div_le_self _ _
    omega
  have sh2 : ∀ K, A.bin .shr (.int .i64 (w : Nat)) (.int .u64 2) K = K (.int .i64 ((w / 2 ^ 2 : Nat) : Int)) := fun K => bin_shrL w 2 .u64 K (by omega)
  have sh4 : ∀ K, A.bin .shr (.int .i64 (w : Nat)) (.int .u64 4) K = K (.int .i64 ((w / 2 ^ 4 : Nat) : Int)) := fun K => bin_shrL w 4 .u64 K (by omega)
  have r3 : ∀ (a : Nat) K, A.bin .rem (.int .i64 (a : Nat)) (.int .i64 3) K = K (.int .i64 ((a % 3 : Nat) : Int)) := fun a K => bin_remN a 3 K (by omega)
  have send : ∃ st' f', (A.bin .shr (.int .i64 (w : Nat)) (.int .u64 2) fun a1 =>
      A.bin .rem a1 (.int .i64 3) fun a2 =>
      A.bin .shr (.int .i64 (w : Nat)) (.int .u64 4) fun a3 =>
      A.bin .rem a3 (.int .i64 3) fun a4 =>
      A.ret (s9 [(V.ptr d 0).er1, a2.er1, a4.er1, ((.str [120]) : V).er1] st) fun a5 z6 =>
      A.bin .add (.int .i64 (i : Nat)) (.int .i64 1) fun a7 =>
      L (.lst (intsV xs) t) (.ptr d 0) a7 z6) = L (.lst (intsV xs) t) (.ptr d 0) (.int .i64 ((i + 1 : Nat) : Int)) st' ∧ FAt st' d m f' ∧ InN f' ∧ f'.nodes = f.nodes ∧ f'.last ≤ i + 1 := by
    obtain ⟨st', q1, q2, q3⟩ := send_s h (by omega) ((w / 2 ^ 2 % 3 : Nat) : Int) ((w / 2 ^ 4 % 3 : Nat) : Int) [120]
    simp only [sh2, sh4, r3, er1_ptr, er1_int, er1_str, q1, ret_ret, e4]
    have := sendF_last f ((w / 2 ^ 2 % 3 : Nat) : Int) ((w / 2 ^ 4 % 3 : Nat) : Int) [120]
    exact ⟨st', _, rfl, q2, (hin.send _ _ _).1, (hin.send _ _ _).2, by omega⟩
  cases h0 : (((low 4 (w : Int) : Nat) : Int) == 0) with
  | true =>
    simp only [cond_true]
    unfold g6b11101001001101
    simp only [cond_true]
    exact send
  | false =>
    simp only [cond_false]
    unfold g6b11101001001101
    cases h1 : (((low 4 (w : Int) : Nat) : Int) == 1) with
    | true =>
      simp only [cond_true]
      exact send
    | false =>
      simp only [cond_false, eql_int, Bool.false_eq_true, if_false]
      obtain ⟨st1, q1, q2⟩ := pick_s h ((w / 2 ^ 2 : Nat) : Int) hx2
      have h1 := h.ks q2
      cases h2 : (((low 4 (w : Int) : Nat) : Int) == 2) with
      | true =>
        obtain ⟨st', r1, r2, r3⟩ := copy_s h1 (by omega) (pickF f ((w / 2 ^ 2 : Nat) : Int))
        simp only [cond_true, sh2, er1_ptr, er1_int, q1, ret_ret, r1, e4]
        have := copyF_last f (pickF f ((w / 2 ^ 2 : Nat) : Int))
        exact ⟨st', _, rfl, r2, (hin.copy _).1, (hin.copy _).2, by omega⟩
      | false =>
        obtain ⟨st', r1, r2, r3⟩ := arr_s h1 (pickF f ((w / 2 ^ 2 : Nat) : Int))
        simp only [cond_false, sh2, er1_ptr, er1_int, q1, ret_ret, r1, e4]
        have := arrF_last f (pickF f ((w / 2 ^ 2 : Nat) : Int))
        exact ⟨st', _, rfl, r2, (hin.arr _).1, (hin.arr _).2, by omega⟩
/-- Behind all: nothing is under way. -/
theorem to_end {st : St} {d m : Nat} {f : Fd} (h : FAt st d m f) (he : f.ps = []) {v : V} {N : Nat} (hv : ∀ K, A.lenL v K = K (.int .i64 (N : Nat))) : ∃ st', g6b1111111 (.ptr d 0) v (.int .i64 (N : Nat)) st = some (.ret (.bool true), st') := by
  unfold g6b1111111
  obtain ⟨st1, w, q1, q2, q3⟩ := ids_s h
  have h1 := h.ks q2
  obtain ⟨st2, r1, r2⟩ := pick_s h1 3 (by omega)
  have hp : pickF f 3 = -1 := by unfold pickF; rw [he]; rfl
  have hi : (idsP f.ps).length = 0 := by rw [he]; rfl
  simp only [hv, eql_int, Bool.false_eq_true, if_false, beq_self_eq_true, guard_tt, er1_ptr, q1, ret_ret, q3.len, hi, show (((0 : Nat) : Int) == 0) = true from rfl]
  unfold g6b11111110_11
  simp only [guard_tt, er1_ptr, er1_int, r1, hp, ret_ret, eql_int, Bool.false_eq_true, if_false, beq_self_eq_true, s13_val, er1_bool]
  exact ⟨_, rfl⟩
theorem filter_none {ps : List Pk} {k : Int} (h : ps.filter (fun p => p.to == k) = []) : ps.filter (fun p => !(p.to == k)) = ps := by
  rw [List.filter_eq_self]
  intro p hp
  rw [List.filter_eq_nil_iff] at h
  have := h p hp
  simpa using this
theorem part_len (q : Pk → Bool) : ∀ (ps : List Pk), (ps.filter q).length + (ps.filter (fun p => !(q p))).length = ps.length
  | [] => rfl
  | p :: l => by
    have := part_len q l
    cases h : q p with
    | true => rw [List.filter_cons_of_pos h, List.filter_cons_of_neg (by simp [h])]; simp; omega
    | false => rw [List.filter_cons_of_neg (by simp [h]), List.filter_cons_of_pos (by simp [h])]; simp; omega
/-- All that go to a node are taken out. -/
theorem inner_loop {st0 : St} {d m : Nat} (hd : d < st0.n) (hm : m < st0.n) (L : V → V → V → V → St → Res) {v7 v : V} {x8 k : Int} {qs rest : List Pk} {zs : List Int} (hk : ∀ p ∈ qs, p.to = k) (hr : qs.Pairwise (fun p q => p.id < q.id)) (hkk : 0 ≤ k ∧ k < 3) (hql : qs.length ≤ 10000) : ∀ (n i : Nat) (st : St) (f : Fd), i ≤ qs.length → qs.length < n + i → FAt st d m f → f.ps.filter (fun p => p.to == k) = qs.drop i → f.ps.filter (fun p => !(p.to == k)) = rest → IL st0 st v (idsP qs) zs → InN f → f.nodes = 3 → 
    ∃ st' f', g6b11111101001001110 L n (.ptr d 0) v7 (.int .i64 x8) (.int .i64 k) v (.int .i64 (i : Nat)) st = L (.ptr d 0) v7 (.int .i64 x8) (.int .i64 (k + 1)) st' ∧ FAt st' d m f' ∧ f'.ps = rest ∧ f'.nodes = 3 := by
  intro n
  induction n with
  | zero => intro i st f hi hn; omega
  | succ n ih =>
    intro i st f hi hn h hq hrest hv hin hnod
    unfold g6b11111101001001110
    have hil : (idsP qs).length = qs.length := by simp [idsP]
    simp only [hv.len, hil, bin_lss]
    by_cases hlt : i < qs.length
    · have hp : qs[i] ∈ f.ps := by
        have : qs[i] ∈ f.ps.filter (fun p => p.to == k) := by
          rw [hq, List.drop_eq_getElem_cons hlt]; exact List.mem_cons_self
        exact (List.mem_filter.1 this).1
      have hpk := hk _ (List.getElem_mem hlt)
      have ea := arr_mem h.ok hp
      obtain ⟨st1, r1, r2, r3⟩ := arr_s h (qs[i].id : Int)
      rw [ea] at r1 r2
      have hat : ∀ {j : Nat} (hj : j < qs.length), (idsP qs)[j]'(by rw [hil]; exact hj) = (qs[j].id : Int) := fun hj => by simp [idsP]
      have hv1 : IL st0 st1 v (idsP qs) zs := hv.keep (fun j h1 h2 => r3.ob j h2 (by omega) (by omega)) r3.n
      have hv2 : IL st0 ((st1.new (.cells (pkC pk0))).put st1.n (.cells (pkC qs[i]))) v (idsP qs) zs := hv1.ks (((Ks.refl st1).new _).put (Nat.le_refl _) _)
      have h2 : FAt ((st1.new (.cells (pkC pk0))).put st1.n (.cells (pkC qs[i]))) d m ⟨f.nodes, f.last, f.ps.filter (fun q => decide (q.id ≠ qs[i].id))⟩ := r2.ks (((Ks.refl st1).new _).put (Nat.le_refl _) _)
      have o2 := put_at (st1.new (.cells (pkC pk0))) st1.n (.cells (pkC qs[i]))
      simp only [show ((i : Int) < (qs.length : Int)) from by omega, decide_true, cond_true, hv.at (show i < (idsP qs).length by omega), hat hlt, er1_ptr, er1_int, r1, ret_ret, ext_0, ext_1, bx4, sv4 _ (new_at _ _)]
      generalize (st1.new (.cells (pkC pk0))).put st1.n (.cells (pkC qs[i])) = st2 at hv2 h2 o2 ⊢
      unfold g6b1111110100100111001001
      obtain ⟨w0, w1, w2, w3⟩ := ld4f o2
      simp only [eql_int, if_true, bne_self_eq_false, guard_ff, faddr_ptr, Nat.zero_add, w2, hpk]
      unfold g6b11111101001001110010010_9
      have e4 : ∀ K, A.bin .add (.int .i64 (i : Nat)) (.int .i64 1) K = K (.int .i64 ((i + 1 : Nat) : Int)) := fun K => bin_inc (by omega) K
      have go := ih (i + 1) st2 ⟨f.nodes, f.last, f.ps.filter (fun q => decide (q.id ≠ qs[i].id))⟩ (by omega) (by omega) h2 (by
          show (f.ps.filter (fun q => decide (q.id ≠ qs[i].id))).filter (fun p => p.to == k) = _
          rw [List.filter_filter]
          have : f.ps.filter (fun a => (a.to == k) && decide (a.id ≠ qs[i].id)) = (f.ps.filter (fun p => p.to == k)).filter (fun a => decide (a.id ≠ qs[i].id)) := by
            rw [List.filter_filter]; exact List.filter_congr fun a _ => Bool.and_comm _ _
          rw [this, hq, List.drop_eq_getElem_cons hlt, List.filter_cons_of_neg (by simp)]
          refine List.filter_eq_self.2 fun a ha => ?_
          obtain ⟨j, hj, rfl⟩ := List.getElem_of_mem ha
          rw [List.getElem_drop]
          have hj' : i + 1 + j < qs.length := by simp at hj; omega
          have := (List.pairwise_iff_getElem.1 hr) i (i + 1 + j) hlt hj' (by omega)
          simp; omega) (by
          show (f.ps.filter (fun q => decide (q.id ≠ qs[i].id))).filter (fun p => !(p.to == k)) = _
          rw [List.filter_filter, ← hrest]
          refine List.filter_congr fun a ha => ?_
          cases hak : (a.to == k) with
          | true => simp
          | false =>
            have : a.id ≠ qs[i].id := fun e => by
              have := rise_inj h.ok.rise ha hp e
              rw [this, hpk] at hak
              simp at hak
            simp [this]) hv2 (fun p hp => hin p (List.mem_filter.1 hp).1) hnod
      by_cases h0 : i = 0
      · subst h0
        simp only [guard_ff, bin_gtr, show ¬ ((0 : Int) < ((0 : Nat) : Int)) from by omega, decide_false, guardT_b, guard_ft, e4]
        exact go
      · have e5 : ∀ K, A.bin .sub (.int .i64 (i : Nat)) (.int .i64 1) K = K (.int .i64 ((i - 1 : Nat) : Int)) := fun K => by
          rw [bin_sub K (by omega) (by omega)]; congr 2; omega
        have hlt1 : i - 1 < qs.length := by omega
        have := (List.pairwise_iff_getElem.1 hr) (i - 1) i hlt1 hlt (by omega)
        simp only [guard_ff, bin_gtr, show ((0 : Int) < ((i : Nat) : Int)) from by omega, decide_true, guardT_b, guard_tt, e5, hv2.at (show i - 1 < (idsP qs).length by omega), hv2.at (show i < (idsP qs).length by omega), hat hlt, hat hlt1, bin_geq, show ¬ ((qs[i].id : Int) ≤ (qs[i - 1].id : Int)) from by omega, decide_false, cond_false, e4]
        exact go
    · have hie : i = qs.length := by omega
      subst hie
      have e4 : ∀ K, A.bin .add (.int .i64 k) (.int .i64 1) K = K (.int .i64 (k + 1)) := fun K => bin_add K (by omega) (by omega)
      simp only [Int.lt_irrefl, decide_false, cond_false, e4]
      rw [List.drop_length] at hq
      exact ⟨st, f, rfl, h, by rw [← hrest, filter_none hq], hnod⟩
theorem outer_loop {d m N : Nat} {v7 : V} (hv7 : ∀ K, A.lenL v7 K = K (.int .i64 (N : Nat))) (hN : N ≤ 10000) : ∀ (n k c : Nat) (st : St) (f : Fd), k ≤ 3 → 3 < n + k → FAt st d m f → f.nodes = 3 → (∀ p ∈ f.ps, (k : Int) ≤ p.to ∧ p.to < 3) → c + f.ps.length = N →
    ∃ st', g6b111111010 n (.ptr d 0) v7 (.int .i64 (c : Nat)) (.int .i64 (k : Nat)) st = some (.ret (.bool true), st') := by
  intro n
  induction n with
  | zero => intro k c st f hk hn; omega
  | succ n ih =>
    intro k c st f hk hn h hnod hto hc
    unfold g6b111111010
    simp only [bin_lss]
    by_cases hlt : k < 3
    · obtain ⟨st1, v, zs, q1, q2, q3⟩ := to_s h (k : Int)
      rw [toK_ids h.ok] at q3
      have h1 := h.ks q2
      have hil : ∀ ps : List Pk, (idsP ps).length = ps.length := fun ps => by simp [idsP]
      have hpl := part_len (fun p => p.to == (k : Int)) f.ps
      have e4 : ∀ K, A.bin .add (.int .i64 (c : Nat)) (.int .i64 ((f.ps.filter fun p => p.to == (k : Int)).length : Nat)) K = K (.int .i64 ((c + (f.ps.filter fun p => p.to == (k : Int)).length : Nat) : Int)) := fun K => bin_addN _ _ K (by omega)
      simp only [show ((k : Int) < 3) from by omega, decide_true, cond_true, er1_ptr, er1_int, q1, ret_ret, q3.len, hil, e4]
      unfold g6b111111010010011
      obtain ⟨st2, f2, r1, r2, r3, r4⟩ := inner_loop (st0 := st) h.lt h.mlt (g6b111111010 n) (v7 := v7) (v := v) (x8 := ((c + (f.ps.filter fun p => p.to == (k : Int)).length : Nat) : Int)) (k := (k : Int)) (qs := f.ps.filter fun p => p.to == (k : Int)) (rest := f.ps.filter fun p => !(p.to == (k : Int))) (zs := zs) (fun p hp => by simpa using (List.mem_filter.1 hp).2) (h.ok.rise.sublist List.filter_sublist) (by omega) (by omega) big 0 st1 f (by omega) (lt_big (by omega)) h1 rfl rfl q3 (fun p hp => by have := hto p hp; rw [hnod]; omega) hnod
      rw [show ((0 : Nat) : Int) = 0 from rfl] at r1
      rw [r1]
      refine ih (k + 1) _ st2 f2 (by omega) (by omega) r2 r4 (fun p hp => ?_) (by rw [r3]; omega)
      rw [r3] at hp
      obtain ⟨g1, g2⟩ := List.mem_filter.1 hp
      have := hto p g1
      simp only [Bool.not_eq_true', beq_eq_false_iff_ne] at g2
      omega
    · have hk3 : k = 3 := by omega
      subst hk3
      have he : f.ps = [] := by
        cases hps : f.ps with
        | nil => rfl
        | cons p l => have := hto p (by rw [hps]; simp); omega
      rw [he] at hc
      have : c = N := by simpa using hc
      subst this
      simp only [show ¬ (((3 : Nat) : Int) < 3) from by omega, decide_false, cond_false]
      exact to_end h he hv7
theorem to_loop {d m : Nat} {xs : List Int} {t : Nat} : ∀ (n i : Nat) (st : St) (f : Fd), i ≤ xs.length → xs.length < n + i → i ≤ 100 → FAt st d m f → InN f → f.nodes = 3 → f.last ≤ i → 
    ∃ st', g6b111010 n (.lst (intsV xs) t) (.ptr d 0) (.int .i64 (i : Nat)) st = some (.ret (.bool true), st') := by
  intro n
  induction n with
  | zero => intro i st f hi hn; omega
  | succ n ih =>
    intro i st f hi hn h100 h hin hnod hl
    have fin : ∃ st', g6b1111 (.ptr d 0) st = some (.ret (.bool true), st') := by
      unfold g6b1111
      obtain ⟨st1, v, q1, q2, q3⟩ := ids_s h
      have hlen := h.ok.len
      have hsm := h.ok.small
      simp only [er1_ptr, q1, ret_ret]
      have hil : (idsP f.ps).length = f.ps.length := by simp [idsP]
      have := outer_loop (d := d) (m := m) (N := f.ps.length) (v7 := v) (fun K => by rw [q3.len, hil]) (by omega) big 0 0 st1 f (by omega) (lt_big (by omega)) (h.ks q2) hnod (fun p hp => by have := hin p hp; rw [hnod] at this; simpa using this) (by omega)
      exact this
    unfold g6b111010
    simp only [lenL_lst, intsV_len, bin_lss]
    by_cases hlt : i < xs.length
    · by_cases h1 : i < 100
      · obtain ⟨st1, f1, q1, q2, q3, q4, q5⟩ := to_step h hin t hlt h1 hl (g6b111010 n)
        simp only [show ((i : Int) < (xs.length : Int)) from by omega, decide_true, guard_tt, show ((i : Int) < 100) from by omega, cond_true, q1]
        exact ih (i + 1) st1 f1 (by omega) (by omega) (by omega) q2 q3 (by rw [q4]; exact hnod) q5
      · simp only [show ((i : Int) < (xs.length : Int)) from by omega, decide_true, guard_tt, show ¬ ((i : Int) < 100) from by omega, decide_false, cond_false]
        exact fin
    · simp only [show ¬ ((i : Int) < (xs.length : Int)) from by omega, decide_false, guard_ft]
      exact fin
theorem fieldTo_law (xs : List Int) (t : Nat) (hx : xs.length ≤ 9223372036854775807) (st : St) : ∃ st', s6 [.lst (intsV xs) t] st = some (.ret (.bool true), st') := by
  rw [s6_eq]
  unfold f6
  simp only [er1_int, new_s, show ((1 : Int) ≤ 3 ∧ (3 : Int) ≤ 65) from by omega, and_self, if_true, ret_ret, ext_0, ext_1, eql_int, bne_self_eq_false, guard_ff, eql_ptr, cond_false]
  unfold g6b111
  exact to_loop big 0 _ ⟨3, 0, []⟩ (by omega) (lt_big (by omega)) (by omega) (new_f 3 (by omega) st) (fun p hp => by cases hp) rfl (by simp)
theorem fieldTo_row {W : World} {v0 : Value} {x0 : V} {n0 : Nat}
    (r0 : Rs (E0 W) [x0] [v0]) (s0 : Sh Try.prog n0 22 x0.cells) (f0 : fit Try.prog 22 x0) :
    Calls Try.prog 6 #[v0] W fun e w' => e = .returned (.bool true) ∧ Below W.heap.size W w' := by
  obtain ⟨xs, rfl, h1, _⟩ := in_ints s0 f0 Try.underlying22 Try.underlying3
  obtain ⟨st', hs⟩ := fieldTo_law xs 0 (by omega) St0
  exact bool_row sim6 W _ _ _ hs r0
end Go.Ab
