import Derived.Test.YtjmkmfolpimieaaAbF16e
/- sinewlaw16: FieldNumbers. -/
namespace Go.Ab
open Go.Proofs Go.RowKit
set_option linter.unusedVariables false
set_option linter.unusedSimpArgs false
set_option maxRecDepth 100000
theorem filt_len {ps : List Pk} (h : ps.Pairwise (fun p q => p.id < q.id)) {p : Pk} (hp : p ∈ ps) : (ps.filter (fun q => decide (q.id ≠ p.id))).length + 1 = ps.length := by
  obtain ⟨i, hi⟩ := find_mem h hp
  obtain ⟨_, h2, _⟩ := findP_some hi
  rw [Nat.sub_zero] at h2
  have hlt := (List.getElem?_eq_some_iff.1 h2).1
  have := erase_filter h hi
  rw [Nat.sub_zero] at this
  have e : ps.filter (fun q => decide ((q.id : Int) ≠ (p.id : Int))) = ps.filter (fun q => decide (q.id ≠ p.id)) := List.filter_congr fun q _ => by rw [decide_eq_decide]; omega
  rw [← e, ← this, List.length_eraseIdx_of_lt hlt]; omega
theorem pickF_cases (f : Fd) (x : Int) : (pickF f x = -1 ∧ f.ps = []) ∨ ∃ p ∈ f.ps, pickF f x = (p.id : Int) := by
  unfold pickF
  by_cases h : f.ps = []
  · exact .inl ⟨by rw [h]; rfl, h⟩
  · have hpos : 0 < f.ps.length := List.length_pos_iff.2 h
    have := pickI_lt x hpos
    rw [List.getElem?_eq_getElem this]
    exact .inr ⟨_, List.getElem_mem this, rfl⟩
structure NAt (st : St) (d m w : Nat) (f : Fd) (ws : List (List UInt8)) (i : Nat) : Prop where
  fa : FAt st d m f
  n4 : f.nodes = 4
  last : f.last ≤ i
  wob : st.ob w = some (.cells (strsV ws))
  wlt : w < st.n
  wd : w ≠ d
  wm : w ≠ m
  wl : ws.length = 201
  okp : ∀ p ∈ f.ps, okS f p.fr p.to p.bs = true
  what : ∀ p ∈ f.ps, ws[p.id]? = some p.bs
theorem NAt.ks {st st' : St} {d m w : Nat} {f : Fd} {ws : List (List UInt8)} {i : Nat} (h : NAt st d m w f ws i) (k : Ks st st') : NAt st' d m w f ws i :=
  ⟨h.fa.ks k, h.n4, h.last, (k.ob _ h.wlt).trans h.wob, Nat.lt_of_lt_of_le h.wlt k.n, h.wd, h.wm, h.wl, h.okp, h.what⟩
theorem NAt.up {st : St} {d m w : Nat} {f : Fd} {ws : List (List UInt8)} {i j : Nat} (h : NAt st d m w f ws i) (hj : i ≤ j) : NAt st d m w f ws j :=
  ⟨h.fa, h.n4, Nat.le_trans h.last hj, h.wob, h.wlt, h.wd, h.wm, h.wl, h.okp, h.what⟩
theorem okS_nodes {f g : Fd} (h : f.nodes = g.nodes) (a b : Int) (s : List UInt8) : okS f a b s = okS g a b s := by unfold okS; rw [h]
theorem sendF_ok {f : Fd} {a b : Int} {s : List UInt8} (h : okS f a b s = true) : sendF f a b s = (⟨f.nodes, f.last + 1, f.ps ++ [⟨f.last + 1, a, b, s⟩]⟩, f.last + 1, 0) := by unfold sendF; rw [if_pos h]
theorem NAt.sent {st st' : St} {d m w : Nat} {f : Fd} {ws : List (List UInt8)} {i : Nat} (h : NAt st d m w f ws i) (hi : i < 200) {a b : Int} {s : List UInt8} (hok : okS f a b s = true) (h' : FAt st' d m (sendF f a b s).1) (fr : FFr st st' d m) :
    (∀ K, (A.iaddr 1 (.sl w 0 201 1) (.int .i64 ((f.last + 1 : Nat) : Int)) fun p => A.store 1 p (.str s) st' K) = K (st'.put w (.cells (strsV (ws.set (f.last + 1) s))))) ∧ NAt (st'.put w (.cells (strsV (ws.set (f.last + 1) s)))) d m w (sendF f a b s).1 (ws.set (f.last + 1) s) (i + 1) ∧ (sendF f a b s).1.ps.length = f.ps.length + 1 ∧ (sendF f a b s).1.last = f.last + 1 := by
  have hw' : st'.ob w = some (.cells (strsV ws)) := (fr.ob _ h.wlt h.wd h.wm).trans h.wob
  have hl := h.last
  refine ⟨fun K => ?_, ?_, ?_, ?_⟩
  · have : A.iaddr 1 (.sl w 0 201 1) (.int .i64 ((f.last + 1 : Nat) : Int)) (fun p => A.store 1 p (.str s) st' K) = A.store 1 (.ptr w (f.last + 1)) (.str s) st' K := by
      rw [iaddr_sl (n := f.last + 1) _ (by omega)]; simp
    rw [this, store_str, hw', obo_some, if_pos (by simp [h.wl]; omega)]
    congr 3
    unfold strsV; rw [List.map_set]
  · rw [sendF_ok hok] at h' ⊢
    have := h.wlt; have := fr.n
    refine ⟨⟨?_, ?_, by simp; exact h'.lt, by simp; exact h'.mlt, h'.ne, h'.ok⟩, h.n4, ?_, put_at _ _ _, by simp; omega, h.wd, h.wm, by simp [h.wl], ?_, ?_⟩
    · rw [put_ne _ _ (Ne.symm h.wd)]; exact h'.ob
    · rw [put_ne _ _ (Ne.symm h.wm)]; exact h'.mob
    · show f.last + 1 ≤ i + 1; omega
    · intro p hp
      show okS f p.fr p.to p.bs = true
      rcases List.mem_append.1 hp with g | g
      · exact h.okp p g
      · rw [List.mem_singleton.1 g]; exact hok
    · intro p hp
      rcases List.mem_append.1 hp with g | g
      · have := (h.fa.ok.ids p g).2
        rw [List.getElem?_set_ne (by omega)]; exact h.what p g
      · rw [List.mem_singleton.1 g]
        exact List.getElem?_set_self (by rw [h.wl]; omega)
  · rw [sendF_ok hok]; simp
  · rw [sendF_ok hok]
theorem num_tail {st : St} {d m : Nat} {f : Fd} (h : FAt st d m f) (L : V → V → V → V → V → V → St → Res) (x0 x5 x6 : V) {i : Nat} (hi : i < 200) :
    ∃ st', g3b1111110100100111 L x0 (.ptr d 0) x5 x6 (.int .i64 (f.ps.length : Nat)) (.int .i64 (i : Nat)) st = L x0 (.ptr d 0) x5 x6 (.int .i64 (f.ps.length : Nat)) (.int .i64 ((i + 1 : Nat) : Int)) st' ∧ Ks st st' := by
  unfold g3b1111110100100111
  obtain ⟨st1, v, q1, q2, q3⟩ := ids_s h
  have hil : (idsP f.ps).length = f.ps.length := by simp [idsP]
  have e4 : ∀ K, A.bin .add (.int .i64 (i : Nat)) (.int .i64 1) K = K (.int .i64 ((i + 1 : Nat) : Int)) := fun K => bin_inc (by omega) K
  simp only [er1_ptr, q1, ret_ret, q3.len, hil, eql_int, if_true, bne_self_eq_false, cond_false, e4]
  exact ⟨st1, rfl, q2⟩
theorem num_step {st : St} {d m w : Nat} {f : Fd} {ws : List (List UInt8)} {xs : List Int} (t : Nat) {i : Nat} (h : NAt st d m w f ws i) (hi : i < xs.length) (hi2 : i < 200) (L : V → V → V → V → V → V → St → Res) :
    ∃ st' f' ws', g3b11111101001 L (.lst (intsV xs) t) (.ptr d 0) (.sl w 0 201 1) (.int .i64 (f.last : Nat)) (.int .i64 (f.ps.length : Nat)) (.int .i64 (i : Nat)) st = L (.lst (intsV xs) t) (.ptr d 0) (.sl w 0 201 1) (.int .i64 (f'.last : Nat)) (.int .i64 (f'.ps.length : Nat)) (.int .i64 ((i + 1 : Nat) : Int)) st' ∧ NAt st' d m w f' ws' (i + 1) := by
  unfold g3b11111101001
  have e4 : ∀ K, A.bin .add (.int .i64 (i : Nat)) (.int .i64 1) K = K (.int .i64 ((i + 1 : Nat) : Int)) := fun K => bin_inc (by omega) K
  have hlast := h.last
  have hlen := h.fa.ok.len
  have e5 : ∀ K, A.bin .add (.int .i64 (f.last : Nat)) (.int .i64 1) K = K (.int .i64 ((f.last + 1 : Nat) : Int)) := fun K => bin_inc (by omega) K
  have e6 : ∀ K, A.bin .add (.int .i64 (f.ps.length : Nat)) (.int .i64 1) K = K (.int .i64 ((f.ps.length + 1 : Nat) : Int)) := fun K => bin_inc (by omega) K
  have hw := low_lt 65536 xs[i] (by omega)
  simp only [iaddr_ints t hi, load_l1', bin_and65535]
  generalize low 65536 xs[i] = x at hw ⊢
  have hx2 : -9223372036854775808 ≤ ((x / 2 ^ 2 : Nat) : Int) ∧ ((x / 2 ^ 2 : Nat) : Int) ≤ 9223372036854775807 := by
    have : x / 2 ^ 2 ≤ x := Nat.div_le_self _ _
    omega
  have sh2 : ∀ K, A.bin .shr (.int .i64 (x : Nat)) (.int .u64 2) K = K (.int .i64 ((x / 2 ^ 2 : Nat) : Int)) := fun K => bin_shrL x 2 .u64 K (by omega)
  have sh4 : ∀ K, A.bin .shr (.int .i64 (x : Nat)) (.int .u64 4) K = K (.int .i64 ((x / 2 ^ 4 : Nat) : Int)) := fun K => bin_shrL x 4 .u64 K (by omega)
  have si4 : ∀ K, A.bin .shr (.int .i64 (i : Nat)) (.int .u64 4) K = K (.int .i64 ((i / 2 ^ 4 : Nat) : Int)) := fun K => bin_shrL i 4 .u64 K (by omega)
  obtain ⟨st0, q1, q2⟩ := pick_s h.fa ((x / 2 ^ 2 : Nat) : Int) hx2
  have h0 := h.ks q2
  simp only [sh2, er1_ptr, er1_int, q1, ret_ret]
  have hpc := pickF_cases f ((x / 2 ^ 2 : Nat) : Int)
  generalize pickF f ((x / 2 ^ 2 : Nat) : Int) = idv at hpc ⊢
  unfold g3b111111010010011
  simp only [bin_and3, eql_int, Bool.false_eq_true, if_false]
  have send : ∀ x51, ∃ st' f' ws', g3b1111110100100110101 L (.lst (intsV xs) t) (.ptr d 0) (.sl w 0 201 1) (.int .i64 (f.last : Nat)) (.int .i64 (f.ps.length : Nat)) (.int .i64 (i : Nat)) (.int .i64 (x : Nat)) (.int .i64 idv) x51 (.bool true) st0 = L (.lst (intsV xs) t) (.ptr d 0) (.sl w 0 201 1) (.int .i64 (f'.last : Nat)) (.int .i64 (f'.ps.length : Nat)) (.int .i64 ((i + 1 : Nat) : Int)) st' ∧ NAt st' d m w f' ws' (i + 1) := by
    intro x51
    unfold g3b1111110100100110101
    have a15 : ∀ K, A.bin .and (.int .i64 (i : Nat)) (.int .i64 15) K = K (.int .i64 (low 16 (i : Int) : Nat)) := fun K => bin_andN 4 15 rfl (by decide) K
    have hl16 := low_lt 16 (i : Int) (by omega)
    have p1 : ∀ K, A.bin .add (.int .i64 97) (.int .i64 (low 16 (i : Int) : Nat)) K = K (.int .i64 (97 + ((low 16 (i : Int) : Nat) : Int))) := fun K => bin_add K (by omega) (by omega)
    have hdv : i / 2 ^ 4 ≤ i := Nat.div_le_self _ _
    have p2 : ∀ K, A.bin .add (.int .i64 97) (.int .i64 ((i / 2 ^ 4 : Nat) : Int)) K = K (.int .i64 (97 + ((i / 2 ^ 4 : Nat) : Int))) := fun K => bin_add K (by omega) (by omega)
    have b2 : ∀ (u v : Int) K, A.bslice 1 (.int .u8 0) 2 [(0, .int .u8 u), (1, .int .u8 v)] K = K (.lst [.int .u8 u, .int .u8 v] 2) := fun u v K => rfl
    have ts : ∀ (u v : Int) K, A.toStr (.lst [.int .u8 u, .int .u8 v] 2) st0 K = K (.str [UInt8.ofNat u.toNat, UInt8.ofNat v.toNat]) := fun u v K => rfl
    have ti : ∀ (u : Int) K, A.toInt .u8 (.int .i64 u) K = K (.int .u8 (IntKind.u8.wrap u)) := fun u K => rfl
    simp only [cond_true, a15, p1, ti, si4, p2, b2, ts]
    generalize hS : [UInt8.ofNat (IntKind.u8.wrap (97 + ((low 16 (i : Int) : Nat) : Int))).toNat, UInt8.ofNat (IntKind.u8.wrap (97 + ((i / 2 ^ 4 : Nat) : Int))).toNat] = s
    have hs2 : s.length = 2 := by rw [← hS]; rfl
    clear hS
    unfold g3b111111010010011010101
    have la := low_lt 4 ((x / 2 ^ 2 : Nat) : Int) (by omega)
    have lb := low_lt 4 ((x / 2 ^ 4 : Nat) : Int) (by omega)
    generalize hA : low 4 ((x / 2 ^ 2 : Nat) : Int) = a at la
    generalize hB : low 4 ((x / 2 ^ 4 : Nat) : Int) = b at lb
    have hok : okS f (a : Int) (b : Int) s = true := by
      unfold okS
      rw [h.n4]
      simp only [Bool.and_eq_true, decide_eq_true_eq]
      omega
    obtain ⟨st', r1, r2, r3⟩ := send_s h0.fa (by omega) (a : Int) (b : Int) s
    obtain ⟨c1, c2, c3, c4⟩ := h0.sent hi2 hok r2 r3
    have es := sendF_ok hok
    rw [es] at r1
    simp only [sh2, sh4, bin_and3, hA, hB, er1_ptr, er1_int, er1_str, r1, ret_ret, ext_0, ext_1]
    unfold g3b1111110100100110101011
    simp only [eql_int, if_true, bne_self_eq_false, guard_ff, e5, cond_false]
    unfold g3b11111101001001101010111
    simp only [c1, e6]
    rw [← c3]
    obtain ⟨st'', t1, t2⟩ := num_tail c2.fa L (.lst (intsV xs) t) (.sl w 0 201 1) (.int .i64 ((f.last + 1 : Nat) : Int)) hi2
    rw [t1, ← c4]
    exact ⟨st'', _, _, rfl, c2.ks t2⟩
  cases hc0 : (((low 4 (x : Int) : Nat) : Int) == 0) with
  | true => simp only [cond_true]; exact send _
  | false =>
  cases hc1 : (((low 4 (x : Int) : Nat) : Int) == 1) with
  | true => simp only [cond_false]; exact send _
  | false =>
  simp only [cond_false]
  unfold g3b1111110100100110101
  have skip : ∃ st' f' ws', L (.lst (intsV xs) t) (.ptr d 0) (.sl w 0 201 1) (.int .i64 (f.last : Nat)) (.int .i64 (f.ps.length : Nat)) (.int .i64 ((i + 1 : Nat) : Int)) st0 = L (.lst (intsV xs) t) (.ptr d 0) (.sl w 0 201 1) (.int .i64 (f'.last : Nat)) (.int .i64 (f'.ps.length : Nat)) (.int .i64 ((i + 1 : Nat) : Int)) st' ∧ NAt st' d m w f' ws' (i + 1) := ⟨st0, f, ws, rfl, h0.up (by omega)⟩
  simp only [cond_false, eql_int, Bool.false_eq_true, if_false, bin_lss]
  rcases hpc with ⟨e, he⟩ | ⟨p, hp, e⟩
  · subst e
    simp only [show ((-1 : Int) < 0) from by omega, decide_true, cond_true, e4]
    cases hc2 : (((low 4 (x : Int) : Nat) : Int) == 2) with
    | true => simp only [cond_true]; exact skip
    | false => simp only [cond_false]; exact skip
  · subst e
    have hpid := h.fa.ok.ids p hp
    have hwp := h.what p hp
    have hwl : p.id < ws.length := (List.getElem?_eq_some_iff.1 hwp).1
    have ldw : ∀ (s : St) (K : V → St → Res), s.ob w = some (.cells (strsV ws)) → (A.iaddr 1 (.sl w 0 201 1) (.int .i64 (p.id : Nat)) fun q => A.load false 1 q s K) = K (.str p.bs) s := fun s K hs => by
      have : A.iaddr 1 (.sl w 0 201 1) (.int .i64 (p.id : Nat)) (fun q => A.load false 1 q s K) = A.load false 1 (.ptr w p.id) s K := by
        rw [iaddr_sl (n := p.id) _ (by omega)]; simp
      rw [this]
      simp [hs, strsV, hwp]
    simp only [show ¬ ((p.id : Int) < 0) from by omega, decide_false, cond_false]
    cases hc2 : (((low 4 (x : Int) : Nat) : Int) == 2) with
    | true =>
      obtain ⟨st', r1, r2, r3⟩ := copy_s h0.fa (by omega) (p.id : Int)
      obtain ⟨j, hj⟩ := find_mem h.fa.ok.rise hp
      have ec : copyF f (p.id : Int) = sendF f p.fr p.to p.bs := by unfold copyF; rw [hj]
      have hok := h.okp p hp
      have es := sendF_ok hok
      rw [ec] at r1 r2
      obtain ⟨c1, c2, c3, c4⟩ := h0.sent hi2 hok r2 r3
      rw [es] at r1
      simp only [cond_true, er1_ptr, er1_int, r1, ret_ret, ext_0, ext_1]
      unfold g3b111111010010011010111011
      simp only [eql_int, if_true, bne_self_eq_false, guard_ff, e5, bin_gtr, show ¬ ((f.last : Int) < (p.id : Int)) from by omega, decide_false, cond_false]
      unfold g3b1111110100100110101110111
      simp only [ldw st' _ ((r3.ob _ h0.wlt h0.wd h0.wm).trans h0.wob), c1, e6]
      rw [← c3]
      obtain ⟨st'', t1, t2⟩ := num_tail c2.fa L (.lst (intsV xs) t) (.sl w 0 201 1) (.int .i64 ((f.last + 1 : Nat) : Int)) hi2
      rw [t1, ← c4]
      exact ⟨st'', _, _, rfl, c2.ks t2⟩
    | false =>
      have ea := arr_mem h.fa.ok hp
      obtain ⟨st1, r1, r2, r3⟩ := arr_s h0.fa (p.id : Int)
      rw [ea] at r1 r2
      simp only [cond_false, er1_ptr, er1_int, r1, ret_ret, ext_0, ext_1, bx4, sv4 _ (new_at _ _)]
      have k2 : Ks st1 ((st1.new (.cells (pkC pk0))).put st1.n (.cells (pkC p))) := ((Ks.refl st1).new _).put (Nat.le_refl _) _
      have o2 := put_at (st1.new (.cells (pkC pk0))) st1.n (.cells (pkC p))
      have hn2 : st1.n < ((st1.new (.cells (pkC pk0))).put st1.n (.cells (pkC p))).n := by simp
      have h2 := r2.ks k2
      have hd1 := r2.lt; have hm1 := r2.mlt; have hw1 := h0.wlt; have hrn := r3.n
      have w1 : st1.ob w = some (.cells (strsV ws)) := (r3.ob _ h0.wlt h0.wd h0.wm).trans h0.wob
      have w2 : ((st1.new (.cells (pkC pk0))).put st1.n (.cells (pkC p))).ob w = some (.cells (strsV ws)) := (k2.ob _ (by omega)).trans w1
      have kn2 := k2.n
      generalize (st1.new (.cells (pkC pk0))).put st1.n (.cells (pkC p)) = st2 at k2 o2 hn2 h2 w2 kn2 ⊢
      unfold g3b111111010010011010111111
      obtain ⟨st3, s1, s2, s3⟩ := arr_s h2 (p.id : Int)
      have ea2 : arrF ⟨f.nodes, f.last, f.ps.filter (fun q => decide (q.id ≠ p.id))⟩ (p.id : Int) = (⟨f.nodes, f.last, f.ps.filter (fun q => decide (q.id ≠ p.id))⟩, pk0, 3) := by
        unfold arrF
        rw [findP_not (by intro q hq; have := (List.mem_filter.1 hq).2; simp at this; omega)]
      rw [ea2] at s1 s2
      simp only [er1_ptr, er1_int, s1, ret_ret, ext_0, ext_1, bx4, sv4 _ (new_at _ _), eql_int, if_true, bne_self_eq_false, guard_ff]
      have k4 : Ks st3 ((st3.new (.cells (pkC pk0))).put st3.n (.cells (pkC pk0))) := ((Ks.refl st3).new _).put (Nat.le_refl _) _
      have o3 : st3.ob st1.n = some (.cells (pkC p)) := (s3.ob _ hn2 (by omega) (by omega)).trans o2
      have w3 : st3.ob w = some (.cells (strsV ws)) := (s3.ob _ (by omega) h0.wd h0.wm).trans w2
      have hsn := s3.n
      have h4 := s2.ks k4
      have o4 := (k4.ob st1.n (by omega)).trans o3
      have w4 := (k4.ob w (by omega)).trans w3
      have kn4 := k4.n
      generalize (st3.new (.cells (pkC pk0))).put st3.n (.cells (pkC pk0)) = st4 at k4 h4 o4 w4 kn4 ⊢
      unfold g3b111111010010011010111111100_7
      obtain ⟨l0, l1, l2, l3⟩ := ld4f o4
      simp only [guard_ff, faddr_ptr, Nat.zero_add, l0, eql_int, if_true, bne_self_eq_false]
      unfold g3b111111010010011010111111100_13
      have hfl := filt_len h.fa.ok.rise hp
      have e7 : ∀ K, A.bin .sub (.int .i64 (f.ps.length : Nat)) (.int .i64 1) K = K (.int .i64 (((f.ps.filter (fun q => decide (q.id ≠ p.id))).length : Nat) : Int)) := fun K => by
        rw [bin_sub K (by omega) (by omega)]; congr 2; omega
      simp only [guard_ff, bin_gtr, show ¬ ((f.last : Int) < (p.id : Int)) from by omega, decide_false, faddr_ptr, Nat.zero_add, l3, ldw st4 _ w4, eql_str, if_true, bne_self_eq_false, cond_false, e7]
      have hN : NAt st4 d m w ⟨f.nodes, f.last, f.ps.filter (fun q => decide (q.id ≠ p.id))⟩ ws (i + 1) :=
        ⟨h4, h.n4, by show f.last ≤ i + 1; omega, w4, by omega, h.wd, h.wm, h.wl, fun q hq => (show okS f q.fr q.to q.bs = true from h.okp q (List.mem_filter.1 hq).1), fun q hq => h.what q (List.mem_filter.1 hq).1⟩
      obtain ⟨st'', t1, t2⟩ := num_tail h4 L (.lst (intsV xs) t) (.sl w 0 201 1) (.int .i64 (f.last : Nat)) hi2
      rw [t1]
      exact ⟨st'', _, _, rfl, hN.ks t2⟩
theorem num_loop {d m w : Nat} {xs : List Int} {t : Nat} : ∀ (n i : Nat) (st : St) (f : Fd) (ws : List (List UInt8)), i ≤ xs.length → xs.length < n + i → i ≤ 200 → NAt st d m w f ws i → 
    ∃ st', g3b111111010 n (.lst (intsV xs) t) (.ptr d 0) (.sl w 0 201 1) (.int .i64 (f.last : Nat)) (.int .i64 (f.ps.length : Nat)) (.int .i64 (i : Nat)) st = some (.ret (.bool true), st') := by
  intro n
  induction n with
  | zero => intro i st f ws hi hn; omega
  | succ n ih =>
    intro i st f ws hi hn h200 h
    unfold g3b111111010
    simp only [lenL_lst, intsV_len, bin_lss]
    by_cases hlt : i < xs.length
    · by_cases h1 : i < 200
      · obtain ⟨st1, f1, ws1, q1, q2⟩ := num_step t h hlt h1 (g3b111111010 n)
        simp only [show ((i : Int) < (xs.length : Int)) from by omega, decide_true, guard_tt, show ((i : Int) < 200) from by omega, cond_true, q1]
        exact ih (i + 1) st1 f1 ws1 (by omega) (by omega) (by omega) q2
      · simp only [show ((i : Int) < (xs.length : Int)) from by omega, decide_true, guard_tt, show ¬ ((i : Int) < 200) from by omega, decide_false, cond_false, s13_val, ret_ret, er1_bool]
        exact ⟨_, rfl⟩
    · simp only [show ¬ ((i : Int) < (xs.length : Int)) from by omega, decide_false, guard_ft, s13_val, ret_ret, er1_bool]
      exact ⟨_, rfl⟩
theorem fieldNumbers_law (xs : List Int) (t : Nat) (hx : xs.length ≤ 9223372036854775807) (st : St) : ∃ st', s3 [.lst (intsV xs) t] st = some (.ret (.bool true), st') := by
  rw [s3_eq]
  unfold f3
  simp only [er1_int, new_s, show ((1 : Int) ≤ 4 ∧ (4 : Int) ≤ 65) from by omega, and_self, if_true, ret_ret, ext_0, ext_1, eql_int, bne_self_eq_false, guard_ff, eql_ptr, cond_false]
  have hf := new_f 4 (by omega) st
  have hn : ((st.new (.map [])).new (.cells [.int .i64 4, .int .i64 0, .map st.n])).n = st.n + 1 + 1 := by simp
  generalize (st.new (.map [])).new (.cells [.int .i64 4, .int .i64 0, .map st.n]) = st1 at hf hn ⊢
  unfold g3b111
  have mk : ∀ K, A.mkslM 1 16 (.str []) (.int .i64 201) (.int .i64 201) st1 K = K (.sl st1.n 0 201 1) (st1.new (.cells (strsV (List.replicate 201 [])))) := fun K => by
    unfold A.mkslM
    dsimp only
    rw [if_pos ⟨rfl, by omega, by omega, by omega, rfl, by omega, rfl⟩]
    congr 3
  simp only [mk]
  have k1 := (Ks.refl st1).new (.cells (strsV (List.replicate 201 [])))
  exact num_loop big 0 _ ⟨4, 0, []⟩ (List.replicate 201 []) (by omega) (lt_big (by omega)) (by omega) ⟨hf.ks k1, rfl, by simp, new_at _ _, by simp, by omega, by omega, by simp, fun p hp => (by cases hp), fun p hp => (by cases hp)⟩
theorem fieldNumbers_row {W : World} {v0 : Value} {x0 : V} {n0 : Nat}
    (r0 : Rs (E0 W) [x0] [v0]) (s0 : Sh Try.prog n0 22 x0.cells) (f0 : fit Try.prog 22 x0) :
    Calls Try.prog 3 #[v0] W fun e w' => e = .returned (.bool true) ∧ Below W.heap.size W w' := by
  obtain ⟨xs, rfl, h1, _⟩ := in_ints s0 f0 Try.underlying22 Try.underlying3
  obtain ⟨st', hs⟩ := fieldNumbers_law xs 0 (by omega) St0
  exact bool_row sim3 W _ _ _ hs r0
end Go.Ab
