import Derived.Test.YtjmkmfolpimieaaAbF16a
/- sinew/field: Copy, Arrive, Ids, Pick. -/
namespace Go.Ab
open Go.Proofs Go.RowKit
set_option linter.unusedVariables false
set_option linter.unusedSimpArgs false
set_option maxRecDepth 100000
theorem findR_at {f : Fd} {x : Int} {i : Nat} {p : Pk} (h : findP x f.ps 0 = some (i, p)) : findR f x = (p, 0) := by unfold findR; rw [h]
theorem findR_no {f : Fd} {x : Int} (h : findP x f.ps 0 = none) : findR f x = (pk0, 3) := by unfold findR; rw [h]
theorem copyF_last (f : Fd) (x : Int) : (copyF f x).1.last ≤ f.last + 1 := by
  unfold copyF sendF
  split
  · split <;> simp
  · simp
theorem sendF_last (f : Fd) (a b : Int) (s : List UInt8) : (sendF f a b s).1.last ≤ f.last + 1 := by
  unfold sendF; split <;> simp
theorem FOK.arr {f : Fd} (h : FOK f) (x : Int) : FOK (arrF f x).1 := by
  unfold arrF
  split
  · rename_i i p hp
    refine ⟨h.pos, h.rise.sublist (List.eraseIdx_sublist _ _), fun q hq => h.ids q ((List.eraseIdx_sublist _ _).mem hq), h.small⟩
  · exact h
theorem copy_s {st : St} {d m : Nat} {f : Fd} (h : FAt st d m f) (hl : f.last ≤ 9999) (x : Int) :
    ∃ st', s10 [.ptr d 0, .int .i64 x] st = some (.ret (.tup [.int .i64 ((copyF f x).2.1 : Nat), .int .i64 (copyF f x).2.2]), st') ∧ FAt st' d m (copyF f x).1 ∧ FFr st st' d m := by
  rw [s10_eq]
  unfold f10
  obtain ⟨st1, q1, q2⟩ := find_s h x
  have h1 := h.ks q2
  have fr1 := q2.ffr d m
  simp only [er1_ptr, er1_int, q1, ret_ret, ext_0, ext_1, bx4]
  have o1 := new_at st1 (.cells (pkC pk0))
  have k2 : Ks st ((st1.new (.cells (pkC pk0))).put st1.n (.cells (pkC (findR f x).1))) := (q2.new (.cells (pkC pk0))).put q2.n _
  have o2 := put_at (st1.new (.cells (pkC pk0))) st1.n (.cells (pkC (findR f x).1))
  have h2 := h.ks k2
  simp only [sv4 _ o1]
  generalize (st1.new (.cells (pkC pk0))).put st1.n (.cells (pkC (findR f x).1)) = st2 at k2 o2 h2 ⊢
  unfold g10b11
  cases hq : findP x f.ps 0 with
  | none =>
    have e : copyF f x = (f, 0, 3) := by unfold copyF; rw [hq]
    rw [e, findR_no hq]
    simp only [eql_int, show ((3 : Int) != 0) = true from rfl, if_true, cond_true, er1_int]
    exact ⟨_, rfl, h2, k2.ffr _ _⟩
  | some q =>
    obtain ⟨i, p⟩ := q
    have e : copyF f x = sendF f p.fr p.to p.bs := by unfold copyF; rw [hq]
    rw [findR_at hq] at o2 ⊢
    rw [e]
    obtain ⟨w0, w1, w2, w3⟩ := ld4f o2
    obtain ⟨st', r1, r2, r3⟩ := send_s h2 hl p.fr p.to p.bs
    simp only [eql_int, show ((0 : Int) != 0) = false from rfl, if_true, cond_false, faddr_ptr, Nat.zero_add, w0, w1, w2, w3, er1_ptr, er1_int, er1_str, r1, ret_ret, ext_0, ext_1]
    exact ⟨_, rfl, r2, (k2.ffr d m).trans r3⟩
theorem arr_s {st : St} {d m : Nat} {f : Fd} (h : FAt st d m f) (x : Int) :
    ∃ st', s11 [.ptr d 0, .int .i64 x] st = some (.ret (.tup [.agg (pkC (arrF f x).2.1), .int .i64 (arrF f x).2.2]), st') ∧ FAt st' d m (arrF f x).1 ∧ FFr st st' d m := by
  have hok := h.ok.arr x
  rw [s11_eq]
  unfold f11
  simp only [bx4]
  have k0 := (Ks.refl st).new (.cells (pkC pk0))
  have h0 := h.ks k0
  obtain ⟨st1, q1, q2⟩ := find_s h0 x
  have k1 := k0.trans q2
  have z1 : st1.ob st.n = some (.cells (pkC pk0)) := (q2.ob _ (by simp)).trans (new_at _ _)
  have zn : st.n < st1.n := Nat.lt_of_lt_of_le (by simp) q2.n
  simp only [er1_ptr, er1_int, q1, ret_ret, ext_0, ext_1]
  have o1 := new_at st1 (.cells (pkC pk0))
  have k2 : Ks st ((st1.new (.cells (pkC pk0))).put st1.n (.cells (pkC (findR f x).1))) := (k1.new (.cells (pkC pk0))).put k1.n _
  have o2 := put_at (st1.new (.cells (pkC pk0))) st1.n (.cells (pkC (findR f x).1))
  have z2 : ((st1.new (.cells (pkC pk0))).put st1.n (.cells (pkC (findR f x).1))).ob st.n = some (.cells (pkC pk0)) := by
    rw [put_ne _ _ (by omega), new_ne _ _ (by omega)]; exact z1
  have h2 := h.ks k2
  have hn1 := q2.n
  simp only [sv4 _ o1]
  generalize hS : (st1.new (.cells (pkC pk0))).put st1.n (.cells (pkC (findR f x).1)) = st2 at k2 o2 h2 z2 ⊢
  unfold g11b11
  have hdn := h.lt
  have hmn := h.mlt
  cases hq : findP x f.ps 0 with
  | none =>
    have e : arrF f x = (f, pk0, 3) := by unfold arrF; rw [hq]
    rw [e]
    rw [findR_no hq] at o2 ⊢
    simp only [eql_int, show ((3 : Int) == 0) = false from rfl, Bool.false_eq_true, if_false, cond_false, ld4 o2, sv4 _ z2, ld4 (put_at _ _ _), kid_eq, rtmp_some, rcell_some, res_two, er4, er1_int]
    exact ⟨_, rfl, h.ks (k2.put (Nat.le_refl _) _), (k2.put (Nat.le_refl _) _).ffr _ _⟩
  | some q =>
    obtain ⟨i, p⟩ := q
    have e : arrF f x = (⟨f.nodes, f.last, f.ps.eraseIdx i⟩, p, 0) := by unfold arrF; rw [hq]
    rw [e] at hok ⊢
    rw [findR_at hq] at o2 ⊢
    obtain ⟨l0, l1, l2⟩ := h2.ld
    have dl : ∀ K, A.delM (keyB Try.prog 3 (.int .i64 x)) (.map m) (.int .i64 x) st2 K = K (.tup []) (st2.put m (.map (entP (f.ps.eraseIdx i)))) := fun K => by
      rw [key_i]
      unfold A.delM
      rw [if_pos rfl]
      simp only [h2.mob]
      rw [find_ent, hq]
      show K _ _ = _
      rw [show (entP f.ps).eraseIdx i = entP (f.ps.eraseIdx i) from by unfold entP; rw [map_eraseI]]
    have hm1 : st1.n ≠ m := by omega
    have o3 : (st2.put m (.map (entP (f.ps.eraseIdx i)))).ob st1.n = some (.cells (pkC p)) := by rw [put_ne _ _ hm1]; exact o2
    have z3 : (st2.put m (.map (entP (f.ps.eraseIdx i)))).ob st.n = some (.cells (pkC pk0)) := by rw [put_ne _ _ (by omega)]; exact z2
    simp only [eql_int, show ((0 : Int) == 0) = true from rfl, Bool.false_eq_true, if_false, cond_true, nilc_ptr, faddr_ptr, Nat.zero_add, l2, dl, ld4 o3, sv4 _ z3, ld4 (put_at _ _ _), kid_eq, rtmp_some, rcell_some, res_two, er4, er1_int]
    have h2n := h2.lt; have h2m := h2.mlt
    refine ⟨_, rfl, ⟨?_, ?_, by simp; exact h2n, by simp; exact h2m, h.ne, hok⟩, ((k2.ffr d m).put (.inr (.inl rfl)) _).put (.inr (.inr (Nat.le_refl _))) _⟩
    · rw [put_ne _ _ (by omega), put_ne _ _ h.ne]; exact h2.ob
    · rw [put_ne _ _ (by omega)]; exact put_at _ _ _
/-! Ids -/
def idsP (ps : List Pk) : List Int := ps.map fun p => (p.id : Int)
/-- Numbers in a slice that was made. -/
def IL (st0 st : St) (v : V) (xs zs : List Int) : Prop := (v = .lst [] 1 ∧ xs = [] ∧ zs = []) ∨ ∃ id, v = .sl id 0 xs.length 1 ∧ st.ob id = some (.cells (intsV (xs ++ zs))) ∧ st0.n ≤ id ∧ id < st.n
theorem IL.len {st0 st : St} {v : V} {xs zs : List Int} (h : IL st0 st v xs zs) (K : V → Res) : A.lenL v K = K (.int .i64 (xs.length : Nat)) := by
  rcases h with ⟨rfl, rfl, rfl⟩ | ⟨id, rfl, _⟩ <;> rfl
theorem IL.er {st0 st : St} {v : V} {xs zs : List Int} (h : IL st0 st v xs zs) : v.er1 = v := by
  rcases h with ⟨rfl, rfl, rfl⟩ | ⟨id, rfl, _⟩ <;> rfl
theorem IL.at {st0 st : St} {v : V} {xs zs : List Int} (h : IL st0 st v xs zs) {i : Nat} (hi : i < xs.length) (K : V → St → Res) : (A.iaddr 1 v (.int .i64 (i : Nat)) fun a => A.load false 1 a st K) = K (.int .i64 xs[i]) st := by
  rcases h with ⟨rfl, rfl, rfl⟩ | ⟨id, rfl, h1, _⟩
  · simp at hi
  · have : A.iaddr 1 (.sl id 0 xs.length 1) (.int .i64 (i : Nat)) (fun a => A.load false 1 a st K) = A.load false 1 (.ptr id i) st K := by
      simp [A.iaddr, hi]
    rw [this]
    have hl : i < (xs ++ zs).length := by simp; omega
    simp [h1, intsV, hi, List.getElem?_append]
theorem IL.keep {st0 st st' : St} {v : V} {xs zs : List Int} (h : IL st0 st v xs zs) (k : ∀ i, st0.n ≤ i → i < st.n → st'.ob i = st.ob i) (hn : st.n ≤ st'.n) : IL st0 st' v xs zs := by
  rcases h with ⟨rfl, rfl, rfl⟩ | ⟨id, rfl, h1, h2, h3⟩
  · exact .inl ⟨rfl, rfl, rfl⟩
  · exact .inr ⟨id, rfl, (k _ h2 h3).trans h1, h2, Nat.lt_of_lt_of_le h3 hn⟩
theorem IL.ks {st0 st st' : St} {v : V} {xs zs : List Int} (h : IL st0 st v xs zs) (k : Ks st st') : IL st0 st' v xs zs := h.keep (fun i _ hi => k.ob i hi) k.n
theorem keys_ent : ∀ {ps : List Pk}, (∀ p ∈ ps, p.id ≤ 10000) → keysI (entP ps) = some (idsP ps)
  | [], _ => rfl
  | p :: l, h => by
    have ih := keys_ent (ps := l) (fun q hq => h q (List.mem_cons_of_mem _ hq))
    have hp := h p (by simp)
    show (match keysI (entP l) with | some ks => if -9223372036854775808 ≤ (p.id : Int) ∧ (p.id : Int) ≤ 9223372036854775807 then some ((p.id : Int) :: ks) else none | none => none) = _
    rw [ih]
    show (if _ then _ else _) = _
    rw [if_pos ⟨by omega, by omega⟩]; rfl
theorem idsP_rise {ps : List Pk} (h : ps.Pairwise (fun p q => p.id < q.id)) : (idsP ps).Pairwise (· < ·) := by
  unfold idsP
  rw [List.pairwise_map]
  exact h.imp (fun h => by omega)
theorem ids_s {st : St} {d m : Nat} {f : Fd} (h : FAt st d m f) : ∃ st' v, s12 [.ptr d 0] st = some (.ret v, st') ∧ Ks st st' ∧ IL st st' v (idsP f.ps) [] := by
  rw [s12_eq]
  unfold f12
  obtain ⟨l0, l1, l2⟩ := h.ld
  have hp := h.ok.pos
  have e25 : s25 [.map m] st = some (.ret (.fn 32 [] [.ptr st.n 0]), st.new (.cells [.map m])) := by
    rw [s25_eq]; rfl
  have k1 := (Ks.refl st).new (.cells [.map m])
  have h1 := h.ks k1
  have hl := h.ok.len
  have hsm := h.ok.small
  have e24 : s24 [.fn 32 [] [.ptr st.n 0]] (st.new (.cells [.map m])) = (if idsP f.ps = [] then some (.ret (.lst [] 1), st.new (.cells [.map m])) else some (.ret (.sl (st.new (.cells [.map m])).n 0 (idsP f.ps).length 1), (st.new (.cells [.map m])).new (.cells ((idsP f.ps).map (V.int .i64))))) := by
    rw [sort_s]
    unfold a24
    simp only [new_at, h1.mob]
    rw [keys_ent (fun p hp => by have := (h.ok.ids p hp).2; omega)]
    show (if _ then _ else _) = _
    rw [if_pos ⟨by unfold idsP; rw [List.length_map]; omega, idsP_rise h.ok.rise⟩]
  simp only [er1_ptr, er1_int, has_s h, ret_ret, Int.le_refl, show (0 : Int) < f.nodes from by omega, decide_true, Bool.and_self, un_not, Bool.not_true, cond_false, nilc_ptr, faddr_ptr, Nat.zero_add, l2, er1_map, e25, er1_fn, e24]
  by_cases he : idsP f.ps = []
  · rw [if_pos he]
    simp only [ret_ret, er1_lst]
    exact ⟨_, _, rfl, k1, .inl ⟨rfl, he, rfl⟩⟩
  · rw [if_neg he]
    simp only [ret_ret, er1_sl]
    refine ⟨_, _, rfl, k1.new _, .inr ⟨_, rfl, ?_, by simp, by simp⟩⟩
    rw [new_at, List.append_nil]; rfl
/-- The place that Pick picks. -/
def pickI (x : Int) (n : Nat) : Nat := if x = -9223372036854775808 then 0 else (x.tmod n).natAbs
theorem pickI_lt (x : Int) {n : Nat} (h : 0 < n) : pickI x n < n := by
  unfold pickI
  split
  · exact h
  · rw [Int.natAbs_tmod]
    exact Nat.mod_lt _ (by omega)
def pickF (f : Fd) (x : Int) : Int := match f.ps[pickI x f.ps.length]? with | some p => (p.id : Int) | none => -1
theorem pick_end {st0 st : St} {v : V} {xs : List Int} (h : IL st0 st v xs []) (k : Int) (hk : k.natAbs < xs.length) (hk2 : xs.length ≤ 10000) : g8b11111 v (.int .i64 k) st = some (.ret (.int .i64 xs[k.natAbs]), st) := by
  unfold g8b11111
  have e1 : ∀ K, A.un .neg (.int .i64 k) K = K (.int .i64 (-k)) := fun K => by
    unfold A.un
    show K (.int .i64 (IntKind.i64.wrap (0 - k))) = _
    rw [wrap_i64 (by omega) (by omega), Int.zero_sub]
  have e2 : ∀ K, A.max (.int .i64 k) (.int .i64 (-k)) K = K (.int .i64 (k.natAbs : Nat)) := fun K => by
    unfold A.max
    show K (.int .i64 (if -k > k then -k else k)) = _
    congr 2
    split <;> omega
  simp only [e1, e2, h.at hk, er1_int]
theorem pick_s {st : St} {d m : Nat} {f : Fd} (h : FAt st d m f) (x : Int) (hx : -9223372036854775808 ≤ x ∧ x ≤ 9223372036854775807) : ∃ st', s8 [.ptr d 0, .int .i64 x] st = some (.ret (.int .i64 (pickF f x)), st') ∧ Ks st st' := by
  rw [s8_eq]
  unfold f8
  obtain ⟨st1, v, q1, q2, q3⟩ := ids_s h
  have hl := h.ok.len
  have hsm := h.ok.small
  have hil : (idsP f.ps).length = f.ps.length := by simp [idsP]
  simp only [er1_ptr, q1, ret_ret, q3.len, eql_int, Bool.false_eq_true, if_false]
  by_cases h0 : f.ps.length = 0
  · have : f.ps = [] := List.eq_nil_of_length_eq_zero h0
    simp only [hil, h0, show (((0 : Nat) : Int) == 0) = true from rfl, cond_true, er1_int]
    refine ⟨_, ?_, q2⟩
    unfold pickF; rw [this]; rfl
  · have e0 : (((idsP f.ps).length : Nat) : Int) ≠ 0 := by omega
    have e1 : ((((idsP f.ps).length : Nat) : Int) == 0) = false := by simpa using e0
    simp only [e1, cond_false, bin_rem _ e0]
    unfold g8b1111
    have hpl := pickI_lt x (n := f.ps.length) (by omega)
    have hres : ∀ k : Int, k.natAbs = pickI x f.ps.length → g8b11111 v (.int .i64 k) st1 = some (.ret (.int .i64 (pickF f x)), st1) := fun k hk => by
      rw [pick_end q3 k (by omega) (by omega)]
      unfold pickF
      rw [List.getElem?_eq_getElem hpl]
      simp [idsP, hk]
    by_cases hm : x = -9223372036854775808
    · subst hm
      have e2 : ∀ K, A.un .neg (.int .i64 (-9223372036854775808)) K = K (.int .i64 (-9223372036854775808)) := fun K => rfl
      simp only [e2, eql_int, Bool.false_eq_true, if_false, beq_self_eq_true, cond_true]
      exact ⟨_, hres 0 (by unfold pickI; rfl), q2⟩
    · have e2 : ∀ K, A.un .neg (.int .i64 x) K = K (.int .i64 (-x)) := fun K => by
        unfold A.un
        show K (.int .i64 (IntKind.i64.wrap (0 - x))) = _
        rw [wrap_i64 (by omega) (by omega), Int.zero_sub]
      simp only [e2, eql_int, Bool.false_eq_true, if_false]
      by_cases hz : x = 0
      · subst hz
        simp only [show ((0 : Int) == -0) = true from rfl, cond_true]
        exact ⟨_, hres 0 (by unfold pickI; rw [if_neg (by omega)]; simp), q2⟩
      · have : (x == -x) = false := by
          rw [beq_eq_false_iff_ne]; omega
        simp only [this, cond_false]
        exact ⟨_, hres _ (by unfold pickI; rw [if_neg hm, hil]), q2⟩
end Go.Ab
