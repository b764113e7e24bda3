import Derived.Test.YtmbaebedkobijaaAbP050
import Derived.Test.YtmbaebedkobijaaAbSpec
import Derived.Test.YtmbaebedkobijaaAbIn2
/- sinew/words: a dictionary. -/
namespace Go.Ab
open Go.Proofs Go.RowKit
set_option linter.unusedVariables false
set_option linter.unusedSimpArgs false
set_option maxRecDepth 100000
def idxW (s : List UInt8) : List (List UInt8) → Option Nat
  | [] => none
  | w :: l => if s = w then some 0 else (idxW s l).map (· + 1)
theorem idxW_some {s : List UInt8} : ∀ {ws : List (List UInt8)} {i : Nat}, idxW s ws = some i → ws[i]? = some s
  | [], i, h => by cases h
  | w :: l, i, h => by
    unfold idxW at h
    split at h
    · cases h; rename_i e; simp [e]
    · cases hq : idxW s l with
      | none => rw [hq] at h; cases h
      | some j => rw [hq] at h; cases h; simpa using idxW_some hq
theorem idxW_none {s : List UInt8} : ∀ {ws : List (List UInt8)}, idxW s ws = none → s ∉ ws
  | [], _ => by simp
  | w :: l, h => by
    unfold idxW at h
    split at h
    · cases h
    · rename_i e
      cases hq : idxW s l with
      | none => simp [e, idxW_none hq]
      | some j => rw [hq] at h; cases h
theorem idxW_lt {s : List UInt8} {ws : List (List UInt8)} {i : Nat} (h : idxW s ws = some i) : i < ws.length := (List.getElem?_eq_some_iff.1 (idxW_some h)).1
def mapF (k : Nat) (ws : List (List UInt8)) : List (V × V) := (ws.zipIdx k).map fun p => (V.str p.1, V.int .i64 (p.2 : Nat))
def mapW (ws : List (List UInt8)) : List (V × V) := mapF 0 ws
theorem mapW_snoc (ws : List (List UInt8)) (s : List UInt8) : mapW ws ++ [(V.str s, V.int .i64 (ws.length : Nat))] = mapW (ws ++ [s]) := by
  simp [mapW, mapF, List.zipIdx_append]
theorem find_map (s : List UInt8) : ∀ (ws : List (List UInt8)) (k j : Nat), findV (.str s) (mapF k ws) j = some ((idxW s ws).map fun i => (j + i, V.int .i64 ((k + i : Nat) : Int)))
  | [], k, j => rfl
  | w :: l, k, j => by
    unfold mapF
    rw [List.zipIdx_cons, List.map_cons, findV, idxW]
    show (match some (decide (s = w)) with | some true => _ | some false => _ | none => _) = _
    by_cases h : s = w
    · simp [h]
    · simp only [decide_eq_false h, if_neg h]
      have := find_map s l (k + 1) (j + 1)
      unfold mapF at this
      rw [this]
      cases idxW s l with
      | none => rfl
      | some i => simp; omega
structure DAt (st : St) (d mid t : Nat) (ws : List (List UInt8)) : Prop where
  ob : st.ob d = some (.cells [.map mid, .lst (strsV ws) t])
  mob : st.ob mid = some (.map (mapW ws))
  lt : d < st.n
  mlt : mid < st.n
  ne : d ≠ mid
  own : t = 1 ∨ t = 2 ∨ ∃ k, t = k + 3 ∧ k < st.nt ∧ st.tk k = some 1
@[simp] theorem eql_map (neg : Bool) (i : Nat) (K : V → Res) : A.eql 6 neg (.map i) .map0 K = K (.bool neg) := rfl
@[simp] theorem eql_map0 (neg : Bool) (K : V → Res) : A.eql 6 neg .map0 .map0 K = K (.bool !neg) := rfl
theorem key_str (s : List UInt8) : keyB Try.prog 9 (.str s) = true := by
  unfold keyB; rw [Try.underlying9]; rfl
theorem DAt.ld {st : St} {d mid t : Nat} {ws : List (List UInt8)} (h : DAt st d mid t ws) : (∀ K, A.load false 1 (.ptr d 0) st K = K (.map mid) st) ∧ (∀ K, A.load false 1 (.ptr d 1) st K = K (.lst (strsV ws) t) st) :=
  ⟨fun K => by simp [h.ob], fun K => by simp [h.ob]⟩
theorem given_s {st : St} {d mid t : Nat} {ws : List (List UInt8)} (h : DAt st d mid t ws) : s23 [.ptr d 0] st = some (.ret (.bool true), st) := by
  rw [s23_eq]
  unfold f23
  obtain ⟨l0, l1⟩ := h.ld
  simp only [eql_ptr, guard_tt, nilc_ptr, faddr_ptr, Nat.zero_add, l0, eql_map, er1_bool]
theorem new_s (st : St) : s11 [] st = some (.ret (.ptr (st.n + 1) 0), (st.new (.map [])).new (.cells [.map st.n, .lst [] 1])) := by
  rw [s11_eq]
  unfold f11
  have b : ∀ K, A.build [.map0, .lst [] 1] [(0, 1, .map st.n)] K = K (.agg [.map st.n, .lst [] 1]) := fun K => rfl
  have bx : ∀ K, A.box (.agg [.map st.n, .lst [] 1]) (st.new (.map [])) K = K (.ptr (st.n + 1) 0) ((st.new (.map [])).new (.cells [.map st.n, .lst [] 1])) := fun K => by
    have : (st.new (.map [])).n = st.n + 1 := by simp
    rw [← this]; rfl
  simp only [A.mkmap, b, bx, er1_ptr]
theorem new_at_d (st : St) : DAt ((st.new (.map [])).new (.cells [.map st.n, .lst [] 1])) (st.n + 1) st.n 1 [] := by
  have hn : (st.new (.map [])).n = st.n + 1 := by simp
  exact ⟨by rw [← hn]; exact new_at _ _, by rw [new_ne _ _ (by omega)]; exact new_at _ _, by simp, by simp; omega, by omega, .inl rfl⟩
theorem look_s {st : St} {d mid t : Nat} {ws : List (List UInt8)} (h : DAt st d mid t ws) (s : List UInt8) (K : V → Res) : A.lookupK (keyB Try.prog 9 (.str s)) (.int .i64 0) true (.map mid) (.str s) st K = K (match idxW s ws with | some i => .tup [.int .i64 (i : Nat), .bool true] | none => .tup [.int .i64 0, .bool false]) := by
  rw [key_str]
  unfold A.lookupK
  rw [if_pos rfl]
  unfold A.lookup
  have e := find_map s ws 0 0
  simp only [h.mob]
  unfold mapW
  rw [e]
  cases idxW s ws with
  | none => rfl
  | some i => simp [fob]
theorem id_s {st : St} {d mid t : Nat} {ws : List (List UInt8)} (h : DAt st d mid t ws) (s : List UInt8) : s17 [.ptr d 0, .str s] st = some (.ret (match idxW s ws with | some i => .tup [.int .i64 (i : Nat), .int .i64 0] | none => .tup [.int .i64 0, .int .i64 3]), st) := by
  rw [s17_eq]
  unfold f17
  obtain ⟨l0, l1⟩ := h.ld
  simp only [er1_ptr, given_s h, ret_ret, un_not, Bool.not_true, cond_false, nilc_ptr, faddr_ptr, Nat.zero_add, l0, look_s h]
  unfold g17b111
  cases idxW s ws with
  | none => simp only [ext_0, ext_1, un_not, Bool.not_false, cond_true, er1_int]
  | some i => simp only [ext_0, ext_1, un_not, Bool.not_true, cond_false, er1_int]
theorem word_s {st : St} {d mid t : Nat} {ws : List (List UInt8)} (h : DAt st d mid t ws) (x : Int) : s14 [.ptr d 0, .int .i64 x] st = some (.ret (if hx : 0 ≤ x ∧ x.toNat < ws.length then .tup [.str ws[x.toNat], .int .i64 0] else .tup [.str [], .int .i64 3]), st) := by
  rw [s14_eq]
  unfold f14
  obtain ⟨l0, l1⟩ := h.ld
  simp only [er1_ptr, given_s h, ret_ret, un_not, Bool.not_true, cond_false, bin_lss]
  by_cases h0 : x < 0
  · rw [dif_neg (by omega)]
    simp only [h0, decide_true, guard_tf, er1_str, er1_int]
  · simp only [h0, decide_false, guard_ff, nilc_ptr, faddr_ptr, Nat.zero_add, l1, lenL_lst, strsV_len, bin_geq]
    by_cases h1 : x.toNat < ws.length
    · rw [dif_pos ⟨by omega, h1⟩]
      have hx : x = ((x.toNat : Nat) : Int) := by omega
      have ia : ∀ K, A.iaddr 1 (.lst (strsV ws) t) (.int .i64 x) K = K (.lptr [.str ws[x.toNat]]) := fun K => by
        conv => lhs; rw [hx]
        exact iaddr_strs t h1 K
      simp only [show ¬ ((ws.length : Int) ≤ x) from by omega, decide_false, cond_false]
      unfold g14b111
      simp only [nilc_ptr, faddr_ptr, Nat.zero_add, l1, ia, load_l1', er1_str, er1_int]
    · rw [dif_neg (by omega)]
      simp only [show ((ws.length : Int) ≤ x) from by omega, decide_true, cond_true, er1_str, er1_int]
theorem len_s {st : St} {d mid t : Nat} {ws : List (List UInt8)} (h : DAt st d mid t ws) : s15 [.ptr d 0] st = some (.ret (.int .i64 (ws.length : Nat)), st) := by
  rw [s15_eq]
  unfold f15
  obtain ⟨l0, l1⟩ := h.ld
  simp only [er1_ptr, given_s h, ret_ret, un_not, Bool.not_true, cond_false, nilc_ptr, faddr_ptr, Nat.zero_add, l1, lenL_lst, strsV_len, er1_int]
/-- What Put leaves. -/
structure DFr (st st' : St) (d mid t t' : Nat) : Prop where
  n : st.n ≤ st'.n
  nt : st.nt ≤ st'.nt
  ob : ∀ i, i < st.n → i ≠ d → i ≠ mid → st'.ob i = st.ob i
  tk : ∀ k, k < st.nt → t ≠ k + 3 → st'.tk k = st.tk k
  tt : t' = t ∨ t' ≤ 2 ∨ st.nt + 3 ≤ t'
/-- What Put tells, and the words then. -/
def putW (ws : List (List UInt8)) (s : List UInt8) : List (List UInt8) × Nat × Nat :=
  if isW s = false then (ws, 0, 1) else match idxW s ws with | some i => (ws, i, 0) | none => (ws ++ [s], ws.length, 0)
theorem put_s {st : St} {d mid t : Nat} {ws : List (List UInt8)} (h : DAt st d mid t ws) (hl : ws.length ≤ 100000) (s : List UInt8) :
    ∃ st' t', s12 [.ptr d 0, .str s] st = some (.ret (.tup [.int .i64 ((putW ws s).2.1 : Nat), .int .i64 ((putW ws s).2.2 : Nat)]), st') ∧ DAt st' d mid t' (putW ws s).1 ∧ DFr st st' d mid t t' := by
  rw [s12_eq]
  unfold f12 putW
  obtain ⟨l0, l1⟩ := h.ld
  have fr0 : DFr st st d mid t t := ⟨Nat.le_refl _, Nat.le_refl _, fun _ _ _ _ => rfl, fun _ _ _ => rfl, .inl rfl⟩
  simp only [er1_ptr, er1_str, given_s h, ret_ret, un_not, Bool.not_true, guard_ff, is_s]
  cases hw : isW s with
  | false =>
    simp only [Bool.not_false, cond_true, er1_int, if_true]
    exact ⟨st, t, rfl, h, fr0⟩
  | true =>
    simp only [Bool.not_true, cond_false, Bool.true_eq_false, if_false]
    unfold g12b11
    simp only [nilc_ptr, faddr_ptr, Nat.zero_add, l0, look_s h]
    unfold g12b111
    cases hi : idxW s ws with
    | some i =>
      simp only [ext_0, ext_1, un_not, Bool.not_true, cond_false, er1_int]
      exact ⟨st, t, rfl, h, fr0⟩
    | none =>
      have hf := find_map s ws 0 0
      rw [hi] at hf
      have hup : ∀ K, A.mapUpdK (keyB Try.prog 9 (.str s)) (.map mid) (.str s) (.int .i64 (ws.length : Nat)) st K = K (st.put mid (.map (mapW (ws ++ [s])))) := fun K => by
        rw [key_str]
        unfold A.mapUpdK
        rw [if_pos rfl]
        unfold A.mapUpd
        simp only [h.mob]
        unfold mapW
        rw [hf]
        show K _ = _
        rw [show mapF 0 ws = mapW ws from rfl, mapW_snoc]
        rfl
      simp only [ext_0, ext_1, un_not, Bool.not_false, cond_true, nilc_ptr, faddr_ptr, Nat.zero_add, l1, lenL_lst, strsV_len, l0, hup]
      unfold g12b11101011
      have o1 : (st.put mid (.map (mapW (ws ++ [s])))).ob d = some (.cells [.map mid, .lst (strsV ws) t]) := by rw [put_ne _ _ h.ne]; exact h.ob
      have m1 : ∀ K, A.load false 1 (.ptr d 1) (st.put mid (.map (mapW (ws ++ [s])))) K = K (.lst (strsV ws) t) (st.put mid (.map (mapW (ws ++ [s])))) := fun K => by simp [o1]
      have bs : ∀ K, A.bslice 1 (.str []) 1 [(0, .str s)] K = K (.lst (strsV [s]) 2) := fun K => rfl
      have htok : Tok (st.put mid (.map (mapW (ws ++ [s])))) 1 t := by
        rcases h.own with g | g | ⟨k, g1, g2, g3⟩
        · exact .inl g
        · exact .inr (.inl g)
        · exact .inr (.inr ⟨k, g1, g3⟩)
      simp only [nilc_ptr, faddr_ptr, Nat.zero_add, m1, bs, elemsOf_strs]
      rw [app_tok _ htok (by simp; omega) (szok_strs _), ← strsV_app]
      have o2 : (appSt (st.put mid (.map (mapW (ws ++ [s])))) t 1).ob d = some (.cells [.map mid, .lst (strsV ws) t]) := by rw [appSt_ob]; exact o1
      have sw : ∀ u K, A.store 1 (.ptr d 1) (.lst (strsV (ws ++ [s])) u) (appSt (st.put mid (.map (mapW (ws ++ [s])))) t 1) K = K ((appSt (st.put mid (.map (mapW (ws ++ [s])))) t 1).put d (.cells [.map mid, .lst (strsV (ws ++ [s])) u])) := fun u K => by
        rw [store_lst, o2]; rfl
      simp only [sw, er1_int]
      refine ⟨_, st.nt + 3, rfl, ⟨put_at _ _ _, ?_, ?_, ?_, h.ne, .inr (.inr ⟨st.nt, rfl, ?_, ?_⟩)⟩, ⟨?_, ?_, fun i hi h1 h2 => ?_, fun k hk ht => ?_, .inr (.inr (Nat.le_refl _))⟩⟩
      · rw [put_ne _ _ (Ne.symm h.ne), appSt_ob]; exact put_at _ _ _
      · have := h.lt; simp; exact this
      · have := h.mlt; simp; exact this
      · simp
      · rw [put_tk]
        have := appSt_new (st.put mid (.map (mapW (ws ++ [s])))) t 1
        simpa using this
      · simp
      · simp
      · rw [put_ne _ _ h1, appSt_ob, put_ne _ _ h2]
      · rw [put_tk, appSt_tk _ _ _ _ (by simp; omega) ht, put_tk]
end Go.Ab

/- sinew/words: Sorted; awake. -/
namespace Go.Ab
open Go.Proofs Go.RowKit
set_option linter.unusedVariables false
set_option linter.unusedSimpArgs false
set_option maxRecDepth 100000
def nsV (ks : List Nat) : List V := ks.map fun (k : Nat) => V.int .i64 (k : Nat)
theorem nsV_len (ks : List Nat) : (nsV ks).length = ks.length := by simp [nsV]
theorem natsV_ns (ks : List Nat) : natsV (nsV ks) = some ks := by
  induction ks with
  | nil => rfl
  | cons k ks ih =>
    show (match natsV (nsV ks) with | some l => some (k :: l) | none => none) = _
    rw [ih]
theorem textsV_strs (ws : List (List UInt8)) : textsV (strsV ws) = some ws := by
  induction ws with
  | nil => rfl
  | cons k ks ih =>
    show (match textsV (strsV ks) with | some l => some (k :: l) | none => none) = _
    rw [ih]
theorem ns_all (ks : List Nat) : (nsV ks).all V.one = true := by
  rw [List.all_eq_true]; intro v hv; obtain ⟨k, _, rfl⟩ := List.mem_map.1 hv; rfl
theorem flat_ns (ks : List Nat) : flat (nsV ks) = nsV ks := (flat_ones (List.all_eq_true.1 (ns_all ks))).1
/-- Numbers that may be turned. -/
def SlAt (st0 st : St) (v : V) (ks : List Nat) : Prop := (v = .lst [] 1 ∧ ks = []) ∨ ∃ id, v = .sl id 0 ks.length 1 ∧ st.ob id = some (.cells (nsV ks)) ∧ st0.n ≤ id ∧ id < st.n ∧ ks ≠ []
theorem slat_len {st0 st : St} {v : V} {ks : List Nat} (h : SlAt st0 st v ks) (K : V → Res) : A.lenL v K = K (.int .i64 (ks.length : Nat)) := by
  rcases h with ⟨rfl, rfl⟩ | ⟨id, rfl, _⟩ <;> rfl
theorem slat_er {st0 st : St} {v : V} {ks : List Nat} (h : SlAt st0 st v ks) : v.er1 = v := by
  rcases h with ⟨rfl, rfl⟩ | ⟨id, rfl, _⟩ <;> rfl
theorem slat_at {st0 st : St} {v : V} {ks : List Nat} (h : SlAt st0 st v ks) {i : Nat} (hi : i < ks.length) (K : V → St → Res) : (A.iaddr 1 v (.int .i64 (i : Nat)) fun a => A.load false 1 a st K) = K (.int .i64 ((ks[i] : Nat) : Int)) st := by
  rcases h with ⟨rfl, rfl⟩ | ⟨id, rfl, h1, _⟩
  · simp at hi
  · have : A.iaddr 1 (.sl id 0 ks.length 1) (.int .i64 (i : Nat)) (fun a => A.load false 1 a st K) = A.load false 1 (.ptr id i) st K := by
      simp [A.iaddr, hi]
    rw [this]
    simp [h1, nsV, hi]
theorem app_sl {st0 st : St} {v : V} {ks : List Nat} (h : SlAt st0 st v ks) (hk : Ks st0 st) (hl : ks.length ≤ 100000) (k : Nat) (K : V → St → Res) :
    ∃ st' v', A.appM 1 v (some (intsV [(k : Int)])) st K = K v' st' ∧ SlAt st0 st' v' (ks ++ [k]) ∧ Ks st0 st' := by
  rcases h with ⟨rfl, rfl⟩ | ⟨id, rfl, h1, h2, h3, h4⟩
  · refine ⟨st.new (.cells (nsV [k])), .sl st.n 0 1 1, ?_, .inr ⟨st.n, rfl, new_at _ _, hk.n, by simp, by simp⟩, hk.new _⟩
    simp [A.appM, szok, flat, V.cells, nsV, intsV]
  · refine ⟨(st.del id).new (.cells (nsV (ks ++ [k]))), .sl st.n 0 (ks.length + 1) 1, ?_, .inr ⟨st.n, by simp, ?_, hk.n, by simp, by simp⟩, (hk.del h2).new _⟩
    · have hal : ((nsV ks).take (ks.length * 1)).all V.one = true := by rw [Nat.mul_one, List.take_of_length_le (by rw [nsV_len]; exact Nat.le_refl _)]; exact ns_all ks
      have htk : (nsV ks).take (ks.length * 1) = nsV ks := by rw [Nat.mul_one, List.take_of_length_le (by rw [nsV_len]; exact Nat.le_refl _)]
      unfold A.appM
      simp only [h1]
      rw [if_pos ⟨by simp [intsV]; omega, trivial, trivial, by rw [nsV_len]; omega, .inr (by simp [intsV]), hal⟩, htk]
      congr 1
      simp [nsV, flat, intsV, V.cells]
    · have := new_at (st.del id) (.cells (nsV (ks ++ [k])))
      simpa using this
theorem sorted_loop {st0 : St} {d mid t c : Nat} {ws : List (List UInt8)} (hob : st0.ob d = some (.cells [.map mid, .lst (strsV ws) t])) (hc : st0.ob c = some (.cells [.ptr d 0])) (hdl : d < st0.n) (hcl : c < st0.n) (hu : ws.Nodup) (hl : ws.length ≤ 100000) : ∀ (f i : Nat) (v : V) (st : St), i ≤ ws.length → ws.length < f + i → SlAt st0 st v (List.range i) → Ks st0 st →
    ∃ st' v', g13b111010 f (.ptr c 0) v (.int .i64 (ws.length : Nat)) (.int .i64 (i : Nat)) st = some (.ret v', st') ∧ SlAt st0 st' v' (sortW ws (List.range ws.length)) ∧ Ks st0 st' := by
  intro f
  induction f with
  | zero => intro i v st hi hf; omega
  | succ f ih =>
    intro i v st hi hf hs hk
    unfold g13b111010
    by_cases h : i < ws.length
    · have bs : ∀ K, A.bslice 1 (.int .i64 0) 1 [(0, .int .i64 (i : Nat))] K = K (.lst (intsV [(i : Int)]) 2) := fun K => rfl
      have e4 : ∀ K, A.bin .add (.int .i64 (i : Nat)) (.int .i64 1) K = K (.int .i64 ((i + 1 : Nat) : Int)) := fun K => bin_inc (by omega) K
      simp only [bin_lss, show ((i : Int) < (ws.length : Int)) from by omega, decide_true, cond_true, bs, elemsOf_ints]
      obtain ⟨st1, v1, q1, q2, q3⟩ := app_sl hs hk (by simp; omega) i (fun a3 z4 => A.bin .add (.int .i64 (i : Nat)) (.int .i64 1) fun a5 => g13b111010 f (.ptr c 0) a3 (.int .i64 (ws.length : Nat)) a5 z4)
      rw [q1, e4]
      exact ih (i + 1) v1 st1 (by omega) (by omega) (by rw [List.range_succ]; exact q2) q3
    · have : i = ws.length := by omega
      subst this
      simp only [bin_lss, Int.lt_irrefl, decide_false, cond_false]
      rw [slat_er hs, er1_fn, sort_s]
      rcases hs with ⟨rfl, h0⟩ | ⟨id, rfl, h1, h2, h3, h4⟩
      · rw [h0]
        exact ⟨st, .lst [] 1, rfl, .inl ⟨rfl, rfl⟩, hk⟩
      · have hn : (List.range ws.length).length = ws.length := by simp
        have hpos : 0 < ws.length := by
          rcases Nat.eq_zero_or_pos ws.length with g | g
          · rw [g] at h4; exact absurd rfl h4
          · exact g
        have e : sortA st id ws.length c = some (nsV (sortW ws (List.range ws.length))) := by
          unfold sortA
          rw [h1, hk.ob c hcl, hc]
          simp only
          rw [hk.ob d hdl, hob]
          simp only [natsV_ns, textsV_strs]
          rw [if_pos ⟨by rw [nsV_len, hn], hpos, by omega, by omega, by simp, hu, by omega, by omega⟩]
          rfl
        rw [hn]
        have ea : a24 [.sl id 0 ws.length 1, .fn 25 [] [.ptr c 0]] st = some (.ret (.tup []), st.put id (.cells (nsV (sortW ws (List.range ws.length))))) := by
          unfold a24; simp only [e]
        rw [ea]
        have hsl : (sortW ws (List.range ws.length)).length = ws.length := by rw [(sortW_perm _ _).length_eq, hn]
        refine ⟨st.put id (.cells (nsV (sortW ws (List.range ws.length)))), .sl id 0 ws.length 1, rfl, .inr ⟨id, by rw [hsl], put_at _ _ _, h2, by rw [put_n]; exact h3, ?_⟩, hk.put h2 _⟩
        intro g
        rw [g] at hsl; simp at hsl; omega
theorem sorted_s {st : St} {d mid t : Nat} {ws : List (List UInt8)} (h : DAt st d mid t ws) (hu : ws.Nodup) (hl : ws.length ≤ 100000) :
    ∃ st' v', s13 [.ptr d 0] st = some (.ret v', st') ∧ SlAt st st' v' (sortW ws (List.range ws.length)) ∧ Ks st st' := by
  rw [s13_eq]
  unfold f13
  have bx : ∀ K, A.box (.ptr d 0) st K = K (.ptr st.n 0) (st.new (.cells [.ptr d 0])) := fun K => rfl
  have k1 := (Ks.refl st).new (.cells [.ptr d 0])
  have o1 := new_at st (.cells [.ptr d 0])
  have hn : (st.new (.cells [.ptr d 0])).n = st.n + 1 := by simp
  have h' : DAt (st.new (.cells [.ptr d 0])) d mid t ws := by
    refine ⟨by rw [new_ne _ _ (by have := h.lt; omega)]; exact h.ob, by rw [new_ne _ _ (by have := h.mlt; omega)]; exact h.mob, by have := h.lt; omega, by have := h.mlt; omega, h.ne, ?_⟩
    rcases h.own with g | g | ⟨k, g1, g2, g3⟩
    · exact .inl g
    · exact .inr (.inl g)
    · exact .inr (.inr ⟨k, g1, by simpa using g2, by simpa using g3⟩)
  have ld : ∀ K, A.load false 1 (.ptr st.n 0) (st.new (.cells [.ptr d 0])) K = K (.ptr d 0) (st.new (.cells [.ptr d 0])) := fun K => by simp [o1]
  obtain ⟨l0, l1⟩ := h'.ld
  simp only [bx, ld, er1_ptr, given_s h', ret_ret, un_not, Bool.not_true, cond_false, nilc_ptr, faddr_ptr, Nat.zero_add, l1, lenL_lst, strsV_len]
  unfold g13b11101
  obtain ⟨st', v', q1, q2, q3⟩ := sorted_loop (c := st.n) h'.ob o1 (by have := h'.lt; exact this) (by omega) hu hl big 0 (.lst [] 1) _ (by omega) (lt_big (by omega)) (.inl ⟨rfl, rfl⟩) (Ks.refl _)
  refine ⟨st', v', q1, ?_, k1.trans q3⟩
  rcases q2 with g | ⟨id, g1, g2, g3, g4, g5⟩
  · exact .inl g
  · exact .inr ⟨id, g1, g2, by omega, g4, g5⟩
theorem dat_ks {st st' : St} {d mid t : Nat} {ws : List (List UInt8)} (h : DAt st d mid t ws) (k : Ks st st') : DAt st' d mid t ws := by
  refine ⟨by rw [k.ob _ h.lt]; exact h.ob, by rw [k.ob _ h.mlt]; exact h.mob, Nat.lt_of_lt_of_le h.lt k.n, Nat.lt_of_lt_of_le h.mlt k.n, h.ne, ?_⟩
  rcases h.own with g | g | ⟨j, g1, g2, g3⟩
  · exact .inl g
  · exact .inr (.inl g)
  · exact .inr (.inr ⟨j, g1, Nat.lt_of_lt_of_le g2 k.nt, by rw [k.tk _ g2]; exact g3⟩)
theorem awake_s (st : St) : ∃ st', s16 [] st = some (.ret (.bool true), st') := by
  rw [s16_eq]
  unfold f16
  have h0 := new_at_d st
  have w1 : putW [] [98, 111, 98] = ([[98, 111, 98]], 0, 0) := by decide
  have w2 : putW [[98, 111, 98]] [97, 110, 110] = ([[98, 111, 98], [97, 110, 110]], 1, 0) := by decide
  obtain ⟨st1, t1, a1, a2, a3⟩ := put_s h0 (by simp) [98, 111, 98]
  rw [w1] at a1 a2
  dsimp only at a1 a2
  obtain ⟨st2, t2, b1, b2, b3⟩ := put_s a2 (by simp) [97, 110, 110]
  rw [w2] at b1 b2
  dsimp only at b1 b2
  obtain ⟨st3, v, c1, c2, c3⟩ := sorted_s b2 (by decide) (by simp)
  have hs : sortW [[98, 111, 98], [97, 110, 110]] (List.range ([[98, 111, 98], [97, 110, 110]] : List (List UInt8)).length) = [1, 0] := by decide
  rw [hs] at c2
  simp only [new_s, ret_ret, eql_ptr, cond_false, er1_ptr, er1_str, a1, ext_0, ext_1]
  unfold g16b1111
  simp only [er1_ptr, er1_str, b1, ret_ret, ext_0, ext_1, c1, eql_int, Bool.false_eq_true, if_false, Int.natCast_zero, beq_self_eq_true, guard_tt]
  unfold g16b1111110_7
  simp only [guard_tt, eql_int, Bool.false_eq_true, if_false, show (((1 : Nat) : Int) == 1) = true from rfl, beq_self_eq_true]
  unfold g16b1111110_15
  have i0 := fun K => slat_at c2 (show 0 < 2 by omega) K
  have i1 := fun K => slat_at c2 (show 1 < 2 by omega) K
  simp only [guard_tt, slat_len c2, List.length_cons, List.length_nil, eql_int, Bool.false_eq_true, if_false, show (((0 + 1 + 1 : Nat) : Int) == 2) = true from rfl]
  rw [show ((0 : Nat) : Int) = 0 from rfl] at i0
  rw [show ((1 : Nat) : Int) = 1 from rfl] at i1
  rw [i0]
  simp only [eql_int, Bool.false_eq_true, if_false, List.getElem_cons_zero, show (((1 : Nat) : Int) == 1) = true from rfl]
  unfold g16b1111110_26
  simp only [guard_tt]
  rw [i1]
  exact ⟨st3, rfl⟩
end Go.Ab

/- sinewlaw05: WordsNobody; what Put does to words. -/
namespace Go.Ab
open Go.Proofs Go.RowKit
set_option linter.unusedVariables false
set_option linter.unusedSimpArgs false
set_option maxRecDepth 100000
theorem idxW_snoc {x s : List UInt8} : ∀ {ws : List (List UInt8)} {k : Nat}, idxW x ws = some k → idxW x (ws ++ [s]) = some k
  | [], k, h => by cases h
  | w :: l, k, h => by
    unfold idxW at h
    rw [List.cons_append]
    unfold idxW
    split at h
    · rename_i e; rw [if_pos e]; exact h
    · rename_i e
      rw [if_neg e]
      cases hq : idxW x l with
      | none => rw [hq] at h; cases h
      | some j => rw [hq] at h; rw [idxW_snoc hq]; exact h
theorem idxW_last {s : List UInt8} : ∀ {ws : List (List UInt8)}, idxW s ws = none → idxW s (ws ++ [s]) = some ws.length
  | [], _ => by simp [idxW]
  | w :: l, h => by
    unfold idxW at h
    rw [List.cons_append]
    unfold idxW
    split at h
    · cases h
    · rename_i e
      rw [if_neg e]
      cases hq : idxW s l with
      | none => rw [idxW_last hq]; rfl
      | some j => rw [hq] at h; cases h
theorem idxW_mem {s : List UInt8} : ∀ {ws : List (List UInt8)}, s ∈ ws → ∃ k, idxW s ws = some k
  | w :: l, h => by
    unfold idxW
    by_cases e : s = w
    · exact ⟨0, by rw [if_pos e]⟩
    · rw [if_neg e]
      rcases List.mem_cons.1 h with g | g
      · exact absurd g e
      · obtain ⟨k, hk⟩ := idxW_mem g
        exact ⟨k + 1, by rw [hk]; rfl⟩
theorem putW_len (ws : List (List UInt8)) (s : List UInt8) : (putW ws s).1.length ≤ ws.length + 1 := by
  unfold putW; split
  · simp
  · split <;> simp
theorem putW_nodup {ws : List (List UInt8)} (h : ws.Nodup) (s : List UInt8) : (putW ws s).1.Nodup := by
  unfold putW; split
  · exact h
  · split
    · exact h
    · rename_i hi
      rw [List.nodup_append]
      refine ⟨h, by simp, fun a ha b hb => ?_⟩
      rw [List.mem_singleton.1 hb]
      intro e; subst e; exact idxW_none hi ha
theorem putW_idx (ws : List (List UInt8)) {s : List UInt8} (hs : isW s = true) : idxW s (putW ws s).1 = some (putW ws s).2.1 ∧ (putW ws s).2.2 = 0 := by
  unfold putW
  rw [if_neg (by rw [hs]; simp)]
  split
  · rename_i i hi; exact ⟨hi, rfl⟩
  · rename_i hi; exact ⟨idxW_last hi, rfl⟩
theorem putW_odd (ws : List (List UInt8)) {s : List UInt8} (hs : isW s = false) : putW ws s = (ws, 0, 1) := by
  unfold putW; rw [if_pos hs]
theorem putW_mono {ws : List (List UInt8)} {x : List UInt8} {k : Nat} (h : idxW x ws = some k) (s : List UInt8) : idxW x (putW ws s).1 = some k := by
  unfold putW; split
  · exact h
  · split
    · exact h
    · exact idxW_snoc h
theorem putW_mem (ws : List (List UInt8)) (s x : List UInt8) : x ∈ (putW ws s).1 ↔ x ∈ ws ∨ (isW s = true ∧ x = s) := by
  unfold putW; split
  · rename_i h; simp [h]
  · rename_i h
    have hs : isW s = true := by simpa using h
    split
    · rename_i i hi
      refine ⟨.inl, fun g => ?_⟩
      rcases g with g | ⟨_, g⟩
      · exact g
      · subst g; exact List.mem_iff_getElem?.2 ⟨i, idxW_some hi⟩
    · simp [hs]
/-! nobody -/
def DNo (st : St) (v : V) : Prop := v = .ptr0 ∨ ∃ p, v = .ptr p 0 ∧ st.ob p = some (.cells [.map0, .lst [] 1]) ∧ p < st.n
theorem DNo.er {st : St} {v : V} (h : DNo st v) : v.er1 = v := by rcases h with rfl | ⟨p, rfl, _⟩ <;> rfl
theorem DNo.ks {st st' : St} {v : V} (h : DNo st v) (k : Ks st st') : DNo st' v := by
  rcases h with rfl | ⟨p, rfl, h1, h2⟩
  · exact .inl rfl
  · exact .inr ⟨p, rfl, by rw [k.ob _ h2]; exact h1, Nat.lt_of_lt_of_le h2 k.n⟩
theorem given_no {st : St} {v : V} (h : DNo st v) : s23 [v] st = some (.ret (.bool false), st) := by
  rw [s23_eq]
  unfold f23
  rcases h with rfl | ⟨p, rfl, h1, h2⟩
  · simp only [eql_ptr0, Bool.not_true, guard_ft, er1_bool]
  · have l0 : ∀ K, A.load false 1 (.ptr p 0) st K = K .map0 st := fun K => by simp [h1]
    simp only [eql_ptr, guard_tt, nilc_ptr, faddr_ptr, Nat.zero_add, l0, eql_map0, Bool.not_true, er1_bool]
theorem put_no {st : St} {v : V} (h : DNo st v) (s : List UInt8) : s12 [v, .str s] st = some (.ret (.tup [.int .i64 0, .int .i64 1]), st) := by
  rw [s12_eq]
  unfold f12
  simp only [h.er, given_no h, ret_ret, un_not, Bool.not_false, guard_tf, er1_int]
theorem id_no {st : St} {v : V} (h : DNo st v) (s : List UInt8) : s17 [v, .str s] st = some (.ret (.tup [.int .i64 0, .int .i64 1]), st) := by
  rw [s17_eq]
  unfold f17
  simp only [h.er, given_no h, ret_ret, un_not, Bool.not_false, cond_true, er1_int]
theorem word_no {st : St} {v : V} (h : DNo st v) (x : Int) : s14 [v, .int .i64 x] st = some (.ret (.tup [.str [], .int .i64 1]), st) := by
  rw [s14_eq]
  unfold f14
  simp only [h.er, given_no h, ret_ret, un_not, Bool.not_false, cond_true, er1_int, er1_str]
theorem len_no {st : St} {v : V} (h : DNo st v) : s15 [v] st = some (.ret (.int .i64 0), st) := by
  rw [s15_eq]
  unfold f15
  simp only [h.er, given_no h, ret_ret, un_not, Bool.not_false, cond_true, er1_int]
theorem sorted_no {st : St} {v : V} (h : DNo st v) : ∃ st', s13 [v] st = some (.ret (.lst [] 1), st') ∧ Ks st st' := by
  rw [s13_eq]
  unfold f13
  have bx : ∀ K, A.box v st K = K (.ptr st.n 0) (st.new (.cells [v])) := fun K => by rcases h with rfl | ⟨p, rfl, _⟩ <;> rfl
  have k1 := (Ks.refl st).new (.cells [v])
  have o1 := new_at st (.cells [v])
  have ld : ∀ K, A.load false 1 (.ptr st.n 0) (st.new (.cells [v])) K = K v (st.new (.cells [v])) := fun K => by simp [o1]
  simp only [bx, ld, h.er, given_no (h.ks k1), ret_ret, un_not, Bool.not_false, cond_true, er1_lst]
  exact ⟨_, rfl, k1⟩
theorem nobody_loop (s : List UInt8) (x : Int) (a b : V) : ∀ (f i : Nat) (st : St), i ≤ 2 → 2 < f + i → DNo st a → DNo st b → ∃ st', g8b11010 f (.str s) (.int .i64 x) (.lst [a, b] 2) (.int .i64 (i : Nat)) st = some (.ret (.bool true), st') := by
  intro f
  induction f with
  | zero => intro i st hi hf; omega
  | succ f ih =>
    intro i st hi hf ha hb
    unfold g8b11010
    by_cases h : i < 2
    · obtain ⟨v, hv, hn⟩ : ∃ v, [a, b][i]? = some v ∧ DNo st v := by
        have : i = 0 ∨ i = 1 := by omega
        rcases this with rfl | rfl
        · exact ⟨a, rfl, ha⟩
        · exact ⟨b, rfl, hb⟩
      have hc : v.cells = [v] := by rcases hn with rfl | ⟨p, rfl, _⟩ <;> rfl
      have ia : ∀ K, A.iaddr 1 (.lst [a, b] 2) (.int .i64 (i : Nat)) K = K (.lptr [v]) := fun K => by
        have := iaddr_lst (sz := 1) (t := 2) K hv (by rw [hc]; rfl)
        rw [hc] at this; exact this
      have e4 : ∀ K, A.bin .add (.int .i64 (i : Nat)) (.int .i64 1) K = K (.int .i64 ((i + 1 : Nat) : Int)) := fun K => bin_inc (by omega) K
      obtain ⟨st1, q1, q2⟩ := sorted_no hn
      simp only [lenL_lst, List.length_cons, List.length_nil, bin_lss, show ((i : Int) < ((0 + 1 + 1 : Nat) : Int)) from by omega, decide_true, cond_true, ia, load_l1', hn.er, er1_str, put_no hn, ret_ret, ext_0, ext_1]
      unfold g8b1101001001
      simp only [ia, load_l1', hn.er, er1_str, id_no hn, ret_ret, ext_0, ext_1]
      unfold g8b11010010011
      simp only [ia, load_l1', hn.er, er1_int, word_no hn, ret_ret, ext_0, ext_1]
      unfold g8b110100100111
      simp only [eql_int, if_true, bne_self_eq_false, guard_ff]
      unfold g8b1101001001110_7
      simp only [eql_int, if_true, bne_self_eq_false, guard_ff]
      unfold g8b1101001001110_15
      simp only [eql_str, eql_int, if_true, bne_self_eq_false, guard_ff]
      unfold g8b1101001001110_23
      simp only [guard_ff, ia, load_l1', hn.er, len_no hn, ret_ret, eql_int, if_true, bne_self_eq_false]
      unfold g8b1101001001110_31
      simp only [guard_ff, ia, load_l1', hn.er, q1, ret_ret, lenL_lst, List.length_nil, Int.natCast_zero, bin_gtr, Int.lt_irrefl, decide_false, cond_false, e4]
      exact ih (i + 1) st1 (by omega) (by omega) (ha.ks q2) (hb.ks q2)
    · have : i = 2 := by omega
      subst this
      obtain ⟨st', hw⟩ := awake_s st
      simp only [lenL_lst, List.length_cons, List.length_nil, bin_lss, show ¬ (((2 : Nat) : Int) < ((0 + 1 + 1 : Nat) : Int)) from by omega, decide_false, cond_false, hw, ret_ret, er1_bool]
      exact ⟨_, rfl⟩
theorem wordsNobody_law (s : List UInt8) (x : Int) (st : St) : ∃ st', s8 [.str s, .int .i64 x] st = some (.ret (.bool true), st') := by
  rw [s8_eq]
  unfold f8
  have b : ∀ K, A.build [.map0, .lst [] 1] [] K = K (.agg [.map0, .lst [] 1]) := fun K => rfl
  have bx : ∀ K, A.box (.agg [.map0, .lst [] 1]) st K = K (.ptr st.n 0) (st.new (.cells [.map0, .lst [] 1])) := fun K => rfl
  have bs : ∀ K, A.bslice 1 .ptr0 2 [(0, .ptr0), (1, .ptr st.n 0)] K = K (.lst [.ptr0, .ptr st.n 0] 2) := fun K => rfl
  simp only [b, bx, bs]
  have := nobody_loop s x .ptr0 (.ptr st.n 0) big 0 (st.new (.cells [.map0, .lst [] 1])) (by omega) (lt_big (by omega)) (.inl rfl) (.inr ⟨st.n, rfl, new_at _ _, by simp⟩)
  exact this
theorem wordsNobody_row {W : World} {v0 v1 : Value} {x0 x1 : V} {n0 n1 : Nat}
    (r0 : Rs (E0 W) [x0] [v0]) (s0 : Sh Try.prog n0 9 x0.cells) (f0 : fit Try.prog 9 x0)
    (r1 : Rs (E0 W) [x1] [v1]) (s1 : Sh Try.prog n1 3 x1.cells) (f1 : fit Try.prog 3 x1) :
    Calls Try.prog 8 #[v0, v1] W fun e w' => e = .returned (.bool true) ∧ Below W.heap.size W w' := by
  obtain ⟨s, rfl, _⟩ := in_str s0 f0 Try.underlying9
  obtain ⟨k, rfl, _⟩ := in_int s1 f1 Try.underlying3
  obtain ⟨st', hs⟩ := wordsNobody_law s k St0
  exact bool_row sim8 W _ _ _ hs (Rs.cons r0 r1)
end Go.Ab

/- sinewlaw05: WordsSort. -/
namespace Go.Ab
open Go.Proofs Go.RowKit
set_option linter.unusedVariables false
set_option linter.unusedSimpArgs false
set_option maxRecDepth 100000
theorem bin_subN (a b : Nat) (K : V → Res) (h : b ≤ a) (ha : a ≤ 9223372036854775807) : A.bin .sub (.int .i64 (a : Nat)) (.int .i64 (b : Nat)) K = K (.int .i64 ((a - b : Nat) : Int)) := by
  rw [bin_sub K (by omega) (by omega)]
  congr 2; omega
/-- The words in their order. -/
def sorted (ws : List (List UInt8)) : List Nat := sortW ws (List.range ws.length)
theorem sorted_len (ws : List (List UInt8)) : (sorted ws).length = ws.length := by unfold sorted; rw [(sortW_perm _ _).length_eq]; simp
theorem sorted_lt {ws : List (List UInt8)} {i : Nat} (h : i < (sorted ws).length) : (sorted ws)[i] < ws.length := by
  have := (sortW_perm ws (List.range ws.length)).mem_iff.1 (List.getElem_mem h)
  simpa using this
theorem sorted_nodup (ws : List (List UInt8)) : (sorted ws).Nodup := (sortW_perm ws _).nodup_iff.2 List.nodup_range
theorem sorted_less {ws : List (List UInt8)} (hu : ws.Nodup) {i j : Nat} (hij : i < j) (hj : j < (sorted ws).length) : Op.bytesLess (ws[(sorted ws)[i]]'(sorted_lt (by omega))) (ws[(sorted ws)[j]]'(sorted_lt hj)) = true := by
  have hi : i < (sorted ws).length := by omega
  have h1 := List.pairwise_iff_getElem.1 (sortW_sorted ws (List.range ws.length)) i j hi hj hij
  unfold leW at h1
  have g : ∀ k (h : k < (sorted ws).length), ws.getD (sorted ws)[k] [] = ws[(sorted ws)[k]]'(sorted_lt h) := fun k h => by rw [List.getD_eq_getElem?_getD, List.getElem?_eq_getElem (sorted_lt h)]; rfl
  have e1 := g i hi
  have e2 := g j hj
  unfold sorted at e1 e2
  rw [e1, e2] at h1
  cases h : Op.bytesLess (ws[(sorted ws)[i]]'(sorted_lt hi)) (ws[(sorted ws)[j]]'(sorted_lt hj)) with
  | true => rfl
  | false =>
    have := (List.getElem_inj hu).1 (less_tot h h1)
    have := (List.getElem_inj (sorted_nodup ws)).1 this
    omega
theorem sort_check {d mid t : Nat} {ws : List (List UInt8)} (hu : ws.Nodup) (hl : ws.length ≤ 100000) {st0 st : St} (h : DAt st d mid t ws) {v : V} (hs : SlAt st0 st v (sorted ws)) : ∀ (f i : Nat), i ≤ ws.length → ws.length < f + i → ∃ st', g4b11111010 f (.ptr d 0) v (.int .i64 (i : Nat)) st = some (.ret (.bool true), st') := by
  have hn := sorted_len ws
  intro f
  induction f with
  | zero => intro i hi hf; omega
  | succ f ih =>
    intro i hi hf
    unfold g4b11111010
    simp only [slat_len hs, hn, bin_lss]
    by_cases hlt : i < ws.length
    · have hi' : i < (sorted ws).length := by omega
      have sl := sorted_lt hi'
      have e4 : ∀ K, A.bin .add (.int .i64 (i : Nat)) (.int .i64 1) K = K (.int .i64 ((i + 1 : Nat) : Int)) := fun K => bin_inc (by omega) K
      have wd : ∀ {k} (hk : k < ws.length), s14 [.ptr d 0, .int .i64 ((k : Nat) : Int)] st = some (.ret (.tup [.str ws[k], .int .i64 0]), st) := fun {k} hk => by
        rw [word_s h, dif_pos ⟨by omega, by simpa using hk⟩]; simp
      simp only [show ((i : Int) < (ws.length : Int)) from by omega, decide_true, cond_true]
      rw [slat_at hs hi']
      simp only [er1_ptr, er1_int, wd sl, ret_ret, ext_0, ext_1]
      unfold g4b1111101001001
      simp only [eql_int, if_true, bne_self_eq_false, cond_false, bin_gtr]
      by_cases h0 : 0 < i
      · have es : ∀ K, A.bin .sub (.int .i64 (i : Nat)) (.int .i64 1) K = K (.int .i64 ((i - 1 : Nat) : Int)) := fun K => bin_subN i 1 K (by omega) (by omega)
        have hi2 : i - 1 < (sorted ws).length := by omega
        have sl2 := sorted_lt hi2
        simp only [show ((0 : Int) < (i : Int)) from by omega, decide_true, cond_true, es]
        rw [slat_at hs hi2]
        simp only [er1_ptr, er1_int, wd sl2, ret_ret, ext_0, ext_1]
        unfold g4b11111010010011101
        have hless := sorted_less hu (show i - 1 < i by omega) hi'
        have eg : ∀ K, A.bin .geq (.str (ws[(sorted ws)[i - 1]]'sl2)) (.str (ws[(sorted ws)[i]]'sl)) K = K (.bool false) := fun K => by
          show K (.bool !(Op.bytesLess _ _)) = _
          rw [hless]; rfl
        simp only [eql_int, if_true, bne_self_eq_false, guard_ff, eg, cond_false, e4]
        exact ih (i + 1) (by omega) (by omega)
      · simp only [show ¬ ((0 : Int) < (i : Int)) from by omega, decide_false, cond_false, e4]
        exact ih (i + 1) (by omega) (by omega)
    · have : i = ws.length := by omega
      subst this
      obtain ⟨st', hw⟩ := awake_s st
      simp only [Int.lt_irrefl, decide_false, cond_false, er1_ptr, len_s h, ret_ret, eql_int, Bool.false_eq_true, if_false, beq_self_eq_true, guard_tt, hw, er1_bool]
      exact ⟨_, rfl⟩
theorem sort_loop (l : List (List UInt8)) (hl : l.length ≤ 9223372036854775807) {d mid : Nat} : ∀ (f i t : Nat) (ws : List (List UInt8)) (st : St), i ≤ 200 → 200 < f + i → i ≤ l.length → ws.length ≤ i → ws.Nodup → DAt st d mid t ws →
    ∃ st', g4b111010 f (.lst (strsV l) 0) (.ptr d 0) (.int .i64 (i : Nat)) st = some (.ret (.bool true), st') := by
  have last : ∀ (t : Nat) (ws : List (List UInt8)) (st : St), ws.length ≤ 1000 → ws.Nodup → DAt st d mid t ws → ∃ st', g4b1111 (.ptr d 0) st = some (.ret (.bool true), st') := by
    intro t ws st hw hu h
    unfold g4b1111
    obtain ⟨st1, v, q1, q2, q3⟩ := sorted_s h hu (by omega)
    simp only [er1_ptr, q1, ret_ret]
    exact sort_check hu (by omega) (dat_ks h q3) q2 big 0 (by omega) (lt_big (by omega))
  intro f
  induction f with
  | zero => intro i t ws st hi hf; omega
  | succ f ih =>
    intro i t ws st hi hf hil hw hu h
    unfold g4b111010
    by_cases h1 : i < l.length
    · by_cases h2 : i < 200
      · have e4 : ∀ K, A.bin .add (.int .i64 (i : Nat)) (.int .i64 1) K = K (.int .i64 ((i + 1 : Nat) : Int)) := fun K => bin_inc (by omega) K
        obtain ⟨st1, t1, q1, q2, q3⟩ := put_s h (by omega) l[i]
        simp only [lenL_lst, strsV_len, bin_lss, show ((i : Int) < (l.length : Int)) from by omega, decide_true, guard_tt, show ((i : Int) < 200) from by omega, cond_true]
        unfold g4b11101001
        simp only [iaddr_strs 0 h1, load_l1', er1_ptr, er1_str, q1, ret_ret, e4]
        exact ih (i + 1) t1 _ st1 (by omega) (by omega) (by omega) (by have := putW_len ws l[i]; omega) (putW_nodup hu _) q2
      · simp only [lenL_lst, strsV_len, bin_lss, show ((i : Int) < (l.length : Int)) from by omega, decide_true, guard_tt, show ¬ ((i : Int) < 200) from by omega, decide_false, cond_false]
        exact last t ws st (by omega) hu h
    · simp only [lenL_lst, strsV_len, bin_lss, show ¬ ((i : Int) < (l.length : Int)) from by omega, decide_false, guard_ft]
      exact last t ws st (by omega) hu h
theorem wordsSort_law (l : List (List UInt8)) (hl : l.length ≤ 9223372036854775807) (st : St) : ∃ st', s4 [.lst (strsV l) 0] st = some (.ret (.bool true), st') := by
  rw [s4_eq]
  unfold f4
  simp only [new_s, ret_ret, eql_ptr, cond_false]
  exact sort_loop l hl big 0 1 [] _ (by omega) (lt_big (by omega)) (by omega) (by simp) (by simp) (new_at_d st)
theorem wordsSort_row {W : World} {v0 : Value} {x0 : V} {n0 : Nat}
    (r0 : Rs (E0 W) [x0] [v0]) (s0 : Sh Try.prog n0 23 x0.cells) (f0 : fit Try.prog 23 x0) :
    Calls Try.prog 4 #[v0] W fun e w' => e = .returned (.bool true) ∧ Below W.heap.size W w' := by
  obtain ⟨l, rfl, h1, _⟩ := in_strs s0 f0 Try.underlying23 Try.underlying9
  obtain ⟨st', hs⟩ := wordsSort_law l h1 St0
  exact bool_row sim4 W _ _ _ hs r0
end Go.Ab

/- sinewlaw05: WordsKeep. -/
namespace Go.Ab
open Go.Proofs Go.RowKit
set_option linter.unusedVariables false
set_option linter.unusedSimpArgs false
set_option maxRecDepth 100000
theorem ldv_lp (v : V) (st : St) : ldv false 1 (.lptr [v]) st = some v := rfl
structure OwnU (st : St) (u t : Nat) : Prop where
  own : u = 1 ∨ u = 2 ∨ ∃ k, u = k + 3 ∧ k < st.nt ∧ st.tk k = some 1
  ne : u ≤ 2 ∨ u ≠ t
theorem OwnU.tok {st : St} {u t : Nat} (h : OwnU st u t) : Tok st 1 u := by
  rcases h.own with g | g | ⟨k, g1, g2, g3⟩
  · exact .inl g
  · exact .inr (.inl g)
  · exact .inr (.inr ⟨k, g1, g3⟩)
theorem DAt.tlt {st : St} {d mid t : Nat} {ws : List (List UInt8)} (h : DAt st d mid t ws) : t < st.nt + 3 := by
  rcases h.own with g | g | ⟨k, g1, g2, _⟩ <;> omega
theorem OwnU.ult {st : St} {u t : Nat} (h : OwnU st u t) : u < st.nt + 3 := by
  rcases h.own with g | g | ⟨k, g1, g2, _⟩ <;> omega
theorem OwnU.put {st st' : St} {u t t' d mid : Nat} (h : OwnU st u t) (k : DFr st st' d mid t t') : OwnU st' u t' := by
  have := h.ult
  refine ⟨?_, by have := h.ne; rcases k.tt with g | g | g <;> omega⟩
  rcases h.own with g | g | ⟨j, g1, g2, g3⟩
  · exact .inl g
  · exact .inr (.inl g)
  · exact .inr (.inr ⟨j, g1, Nat.lt_of_lt_of_le g2 k.nt, by rw [k.tk j g2 (by have := h.ne; omega)]; exact g3⟩)
theorem DAt.app {st : St} {d mid t : Nat} {ws : List (List UInt8)} (h : DAt st d mid t ws) (u : Nat) (hu : t ≤ 2 ∨ t ≠ u) : DAt (appSt st u 1) d mid t ws := by
  refine ⟨by rw [appSt_ob]; exact h.ob, by rw [appSt_ob]; exact h.mob, by rw [appSt_n]; exact h.lt, by rw [appSt_n]; exact h.mlt, h.ne, ?_⟩
  rcases h.own with g | g | ⟨k, g1, g2, g3⟩
  · exact .inl g
  · exact .inr (.inl g)
  · exact .inr (.inr ⟨k, g1, by rw [appSt_nt]; omega, by rw [appSt_tk _ _ _ _ (by omega) (by omega)]; exact g3⟩)
theorem OwnU.new {st : St} {d mid t : Nat} {ws : List (List UInt8)} (h : DAt st d mid t ws) (u : Nat) : OwnU (appSt st u 1) (st.nt + 3) t := by
  have := h.tlt
  exact ⟨.inr (.inr ⟨st.nt, rfl, by rw [appSt_nt]; omega, appSt_new _ _ _⟩), .inr (by omega)⟩
/-- The number that is kept of a text. -/
def kNum (ws : List (List UInt8)) (s : List UInt8) : Int := if isW s = true then (match idxW s ws with | some k => (k : Int) | none => -1) else -1
theorem kNum_grow {ws : List (List UInt8)} {x : List UInt8} (h : isW x = true → ∃ k, idxW x ws = some k) (s : List UInt8) : kNum (putW ws s).1 x = kNum ws x := by
  unfold kNum
  split
  · rename_i hx
    obtain ⟨k, hk⟩ := h hx
    rw [putW_mono hk s, hk]
  · rfl
theorem kNum_put (ws : List (List UInt8)) (s : List UInt8) : kNum (putW ws s).1 s = if (putW ws s).2.2 = 0 then ((putW ws s).2.1 : Int) else -1 := by
  unfold kNum
  cases hs : isW s with
  | true =>
    obtain ⟨a, b⟩ := putW_idx ws hs
    rw [a, b]; simp
  | false =>
    rw [putW_odd ws hs]; simp
/-- All of a list has a number. -/
def Kept (ws : List (List UInt8)) (l : List (List UInt8)) : Prop := ∀ x ∈ l, isW x = true → ∃ k, idxW x ws = some k
theorem kNum_pos {ws l : List (List UInt8)} (h : Kept ws l) {x : List UInt8} (hx : x ∈ l) (h0 : 0 ≤ kNum ws x) : ∃ k : Nat, kNum ws x = ((k : Nat) : Int) ∧ idxW x ws = some k ∧ isW x = true := by
  unfold kNum at h0 ⊢
  cases hw : isW x with
  | true =>
    obtain ⟨k, hk⟩ := h x hx hw
    rw [hk] at h0 ⊢
    exact ⟨k, by simp, rfl, rfl⟩
  | false => rw [hw] at h0; simp at h0
theorem keep_inner (l : List (List UInt8)) {ws : List (List UInt8)} {n : Nat} (hn : n ≤ l.length) (hn2 : n ≤ 200) (hk : Kept ws (l.take n)) (L : V → V → V → V → V → St → Res) (x3 x4 : V) (u i : Nat) (hi : i < n) (st : St) : ∀ (f j : Nat), j ≤ i → i < f + j →
    g7b1111110100100010 L f (.lst (strsV l) 0) x3 x4 (.lst (intsV ((l.take n).map (kNum ws))) u) (.int .i64 (i : Nat)) (.int .i64 (j : Nat)) st = g7b11111101001001 L (.lst (strsV l) 0) x3 x4 (.lst (intsV ((l.take n).map (kNum ws))) u) (.int .i64 (i : Nat)) st := by
  have hlen : ((l.take n).map (kNum ws)).length = n := by simp; omega
  have hat : ∀ k (h : k < n), ((l.take n).map (kNum ws))[k]'(by omega) = kNum ws (l[k]'(by omega)) := fun k h => by simp
  have hm : ∀ k (h : k < n), l[k]'(by omega) ∈ l.take n := fun k h => by
    rw [List.mem_iff_getElem]; exact ⟨k, by simp; omega, by simp⟩
  intro f
  induction f with
  | zero => intro j hj hf; omega
  | succ f ih =>
    intro j hj hf
    unfold g7b1111110100100010
    by_cases h : j < i
    · have e4 : ∀ K, A.bin .add (.int .i64 (j : Nat)) (.int .i64 1) K = K (.int .i64 ((j + 1 : Nat) : Int)) := fun K => bin_inc (by omega) K
      have ai : ∀ K, A.iaddr 1 (.lst (intsV ((l.take n).map (kNum ws))) u) (.int .i64 (i : Nat)) K = K (.lptr [.int .i64 (kNum ws (l[i]'(by omega)))]) := fun K => by rw [iaddr_ints u (by omega), hat i hi]
      have aj : ∀ K, A.iaddr 1 (.lst (intsV ((l.take n).map (kNum ws))) u) (.int .i64 (j : Nat)) K = K (.lptr [.int .i64 (kNum ws (l[j]'(by omega)))]) := fun K => by rw [iaddr_ints u (by omega), hat j (by omega)]
      simp only [bin_lss, show ((j : Int) < (i : Int)) from by omega, decide_true, cond_true, ai, load_l1', bin_geq]
      unfold g7b111111010010001001000_6
      by_cases h1 : 0 ≤ kNum ws (l[i]'(by omega))
      · simp only [h1, decide_true, guard_tt, aj, load_l1', bin_geq]
        unfold g7b111111010010001001000_13
        by_cases h2 : 0 ≤ kNum ws (l[j]'(by omega))
        · obtain ⟨k1, a1, a2, _⟩ := kNum_pos hk (hm i hi) h1
          obtain ⟨k2, b1, b2, _⟩ := kNum_pos hk (hm j (by omega)) h2
          have hb : (kNum ws (l[i]'(by omega)) == kNum ws (l[j]'(by omega))) = (l[i]'(by omega) == l[j]'(by omega)) := by
            rw [Bool.eq_iff_iff, beq_iff_eq, beq_iff_eq]
            refine ⟨fun g => ?_, fun g => by rw [g]⟩
            have : k1 = k2 := by omega
            subst this
            have := (idxW_some a2).symm.trans (idxW_some b2)
            exact Option.some.inj this
          simp only [h2, decide_true, guard_tt, ai, aj, load_l1', eql_int, Bool.false_eq_true, if_false, iaddr_strs 0 (show i < l.length by omega), iaddr_strs 0 (show j < l.length by omega), eql_str, hb, eql_bool, if_true, bne_self_eq_false, cond_false, e4]
          exact ih (j + 1) (by omega) (by omega)
        · simp only [h2, decide_false, guard_ft, e4]
          exact ih (j + 1) (by omega) (by omega)
      · simp only [h1, decide_false, guard_ft]
        unfold g7b111111010010001001000_13
        simp only [guard_ft, e4]
        exact ih (j + 1) (by omega) (by omega)
    · have : j = i := by omega
      subst this
      simp only [bin_lss, Int.lt_irrefl, decide_false, cond_false]
theorem keep_check (l : List (List UInt8)) {ws : List (List UInt8)} {n : Nat} (hn : n ≤ l.length) (hn2 : n ≤ 200) (hk : Kept ws (l.take n)) {d mid t u : Nat} {st : St} (h : DAt st d mid t ws) : ∀ (f i : Nat), i ≤ n → n < f + i →
    ∃ st', g7b111111010 f (.lst (strsV l) 0) (.ptr d 0) (.int .i64 (n : Nat)) (.lst (intsV ((l.take n).map (kNum ws))) u) (.int .i64 (i : Nat)) st = some (.ret (.bool true), st') := by
  have hlen : ((l.take n).map (kNum ws)).length = n := by simp; omega
  have hm : ∀ k (h : k < n), l[k]'(by omega) ∈ l.take n := fun k h => by
    rw [List.mem_iff_getElem]; exact ⟨k, by simp; omega, by simp⟩
  intro f
  induction f with
  | zero => intro i hi hf; omega
  | succ f ih =>
    intro i hi hf
    unfold g7b111111010
    by_cases hlt : i < n
    · have e4 : ∀ K, A.bin .add (.int .i64 (i : Nat)) (.int .i64 1) K = K (.int .i64 ((i + 1 : Nat) : Int)) := fun K => bin_inc (by omega) K
      have ai : ∀ K, A.iaddr 1 (.lst (intsV ((l.take n).map (kNum ws))) u) (.int .i64 (i : Nat)) K = K (.lptr [.int .i64 (kNum ws (l[i]'(by omega)))]) := fun K => by rw [iaddr_ints u (by omega)]; simp
      have hin := keep_inner l hn hn2 hk (g7b111111010 f) (.ptr d 0) (.int .i64 (n : Nat)) u i hlt st big 0 (by omega) (lt_big (by omega))
      rw [show ((0 : Nat) : Int) = 0 from rfl] at hin
      simp only [bin_lss, show ((i : Int) < (n : Int)) from by omega, decide_true, cond_true, hin]
      unfold g7b11111101001001
      simp only [ai, load_l1', bin_lss]
      by_cases h0 : kNum ws (l[i]'(by omega)) < 0
      · simp only [h0, decide_true, cond_true, e4]
        exact ih (i + 1) (by omega) (by omega)
      · obtain ⟨k, a1, a2, a3⟩ := kNum_pos hk (hm i hlt) (by omega)
        have hkl := idxW_lt a2
        have hg := idxW_some a2
        rw [List.getElem?_eq_getElem hkl] at hg
        have hg := Option.some.inj hg
        have wd : s14 [.ptr d 0, .int .i64 (kNum ws (l[i]'(by omega)))] st = some (.ret (.tup [.str (l[i]'(by omega)), .int .i64 0]), st) := by
          rw [a1, word_s h, dif_pos ⟨by omega, by simpa using hkl⟩]; simp [hg]
        have idd : s17 [.ptr d 0, .str (l[i]'(by omega))] st = some (.ret (.tup [.int .i64 (kNum ws (l[i]'(by omega))), .int .i64 0]), st) := by
          rw [id_s h, a2, a1]
        simp only [h0, decide_false, cond_false, er1_ptr, er1_int, wd, ret_ret, ext_0, ext_1]
        unfold g7b1111110100100111
        simp only [iaddr_strs 0 (show i < l.length by omega), load_l1', er1_ptr, er1_str, idd, ret_ret, ext_0, ext_1]
        unfold g7b11111101001001111
        have hlt2 : ¬ ((ws.length : Int) ≤ kNum ws (l[i]'(by omega))) := by rw [a1]; omega
        simp only [iaddr_strs 0 (show i < l.length by omega), load_l1', eql_str, if_true, bne_self_eq_false, guard_ff, eql_int, ai, er1_ptr, len_s h, ret_ret, kid_eq, noP_ret, ldv_lp, chk_same, bin_geq, hlt2, decide_false, cond_false, e4]
        exact ih (i + 1) (by omega) (by omega)
    · have : i = n := by omega
      subst this
      obtain ⟨st', hw⟩ := awake_s st
      simp only [bin_lss, Int.lt_irrefl, decide_false, cond_false, hw, ret_ret, er1_bool]
      exact ⟨_, rfl⟩
theorem keep_put (l : List (List UInt8)) {n : Nat} (hn : n ≤ l.length) (hn2 : n ≤ 200) {d mid : Nat} : ∀ (f i t u : Nat) (ws : List (List UInt8)) (st : St), i ≤ n → n < f + i → ws.length ≤ i → Kept ws (l.take i) → DAt st d mid t ws → OwnU st u t →
    ∃ st', g7b11111010 f (.lst (strsV l) 0) (.ptr d 0) (.int .i64 (n : Nat)) (.lst (intsV ((l.take i).map (kNum ws))) u) (.int .i64 (i : Nat)) st = some (.ret (.bool true), st') := by
  intro f
  induction f with
  | zero => intro i t u ws st hi hf; omega
  | succ f ih =>
    intro i t u ws st hi hf hw hk h ho
    unfold g7b11111010
    by_cases hlt : i < n
    · have e4 : ∀ K, A.bin .add (.int .i64 (i : Nat)) (.int .i64 1) K = K (.int .i64 ((i + 1 : Nat) : Int)) := fun K => bin_inc (by omega) K
      obtain ⟨st1, t1, q1, q2, q3⟩ := put_s h (by omega) (l[i]'(by omega))
      have ho1 := ho.put q3
      have htk : l.take (i + 1) = l.take i ++ [l[i]'(by omega)] := by rw [List.take_succ_eq_append_getElem (by omega)]
      have hk1 : Kept (putW ws (l[i]'(by omega))).1 (l.take (i + 1)) := by
        intro x hx hw'
        rw [htk] at hx
        rcases List.mem_append.1 hx with g | g
        · obtain ⟨k, hk'⟩ := hk x g hw'; exact ⟨k, putW_mono hk' _⟩
        · rw [List.mem_singleton.1 g] at hw' ⊢; exact ⟨_, (putW_idx ws hw').1⟩
      have hmap : (l.take (i + 1)).map (kNum (putW ws (l[i]'(by omega))).1) = (l.take i).map (kNum ws) ++ [kNum (putW ws (l[i]'(by omega))).1 (l[i]'(by omega))] := by
        rw [htk, List.map_append]
        congr 1
        exact List.map_congr_left fun x hx => kNum_grow (hk x hx) _
      -- one number more
      have step : ∀ x7 : Int, x7 = kNum (putW ws (l[i]'(by omega))).1 (l[i]'(by omega)) → ∃ st', g7b11111010010011 (g7b11111010 f) (.lst (strsV l) 0) (.ptr d 0) (.int .i64 (n : Nat)) (.lst (intsV ((l.take i).map (kNum ws))) u) (.int .i64 (i : Nat)) (.int .i64 x7) st1 = some (.ret (.bool true), st') := by
        intro x7 hx7
        unfold g7b11111010010011
        have bs : ∀ K, A.bslice 1 (.int .i64 0) 1 [(0, .int .i64 x7)] K = K (.lst (intsV [x7]) 2) := fun K => rfl
        simp only [bs, elemsOf_ints]
        rw [app_tok _ ho1.tok (by simp; omega) (szok_ints _), show intsV ((l.take i).map (kNum ws)) ++ intsV [x7] = intsV ((l.take i).map (kNum ws) ++ [x7]) by simp [intsV], hx7, ← hmap]
        simp only [e4]
        refine ih (i + 1) t1 (st1.nt + 3) _ _ (by omega) (by omega) (by have := putW_len ws (l[i]'(by omega)); omega) hk1 (q2.app u (by have := ho1.ne; have := ho1.ult; omega)) (OwnU.new q2 u)
      simp only [bin_lss, show ((i : Int) < (n : Int)) from by omega, decide_true, cond_true, iaddr_strs 0 (show i < l.length by omega), load_l1', er1_ptr, er1_str, q1, ret_ret, ext_0, ext_1]
      unfold g7b1111101001001
      have hkp := kNum_put ws (l[i]'(by omega))
      by_cases h0 : (putW ws (l[i]'(by omega))).2.2 = 0
      · rw [if_pos h0] at hkp
        simp only [h0, eql_int, if_true, show (((0 : Nat) : Int) != 0) = false from rfl, cond_false]
        exact step _ hkp.symm
      · rw [if_neg h0] at hkp
        have hb : ((((putW ws (l[i]'(by omega))).2.2 : Nat) : Int) != 0) = true := by rw [bne_iff_ne]; omega
        simp only [eql_int, if_true, hb, cond_true]
        exact step _ hkp.symm
    · have : i = n := by omega
      subst this
      simp only [bin_lss, Int.lt_irrefl, decide_false, cond_false]
      unfold g7b111111
      exact keep_check l hn hn2 hk h big 0 (by omega) (lt_big (by omega))
theorem wordsKeep_law (l : List (List UInt8)) (hl : l.length ≤ 9223372036854775807) (st : St) : ∃ st', s7 [.lst (strsV l) 0] st = some (.ret (.bool true), st') := by
  rw [s7_eq]
  unfold f7
  have em : ∀ K, A.min (.int .i64 (l.length : Nat)) (.int .i64 200) K = K (.int .i64 ((min l.length 200 : Nat) : Int)) := fun K => by
    show K (.int .i64 (if (200 : Int) < (l.length : Int) then 200 else (l.length : Int))) = _
    congr 2
    split <;> omega
  simp only [new_s, ret_ret, eql_ptr, cond_false, lenL_lst, strsV_len, em]
  unfold g7b11111
  have := keep_put l (n := min l.length 200) (by omega) (by omega) (d := st.n + 1) (mid := st.n) big 0 1 1 [] _ (by omega) (lt_big (by omega)) (by simp) (by intro x hx; simp at hx) (new_at_d st) ⟨.inl rfl, .inl (by omega)⟩
  simpa [intsV] using this
theorem wordsKeep_row {W : World} {v0 : Value} {x0 : V} {n0 : Nat}
    (r0 : Rs (E0 W) [x0] [v0]) (s0 : Sh Try.prog n0 23 x0.cells) (f0 : fit Try.prog 23 x0) :
    Calls Try.prog 7 #[v0] W fun e w' => e = .returned (.bool true) ∧ Below W.heap.size W w' := by
  obtain ⟨l, rfl, h1, _⟩ := in_strs s0 f0 Try.underlying23 Try.underlying9
  obtain ⟨st', hs⟩ := wordsKeep_law l h1 St0
  exact bool_row sim7 W _ _ _ hs r0
end Go.Ab

/- sinewref05. -/
namespace Go.Ab
open Go.Proofs Go.RowKit Go.Proofs.Ytmbaebedkobijaa.Hand
set_option linter.unusedVariables false
set_option linter.unusedSimpArgs false
set_option maxRecDepth 100000
theorem odd_ints (b : Nat) : oddR b = (((decide ((b : Int) < 97) || decide ((122 : Int) < (b : Int))) && (decide ((b : Int) < 48) || decide ((57 : Int) < (b : Int)))) && (((b : Int) != 45) && ((b : Int) != 58))) := by
  unfold oddR
  have e1 : decide ((b : Int) < 97) = decide (b < 97) := decide_eq_decide.mpr (by omega)
  have e2 : decide ((122 : Int) < (b : Int)) = decide (122 < b) := decide_eq_decide.mpr (by omega)
  have e3 : decide ((b : Int) < 48) = decide (b < 48) := decide_eq_decide.mpr (by omega)
  have e4 : decide ((57 : Int) < (b : Int)) = decide (57 < b) := decide_eq_decide.mpr (by omega)
  have e5 : ((b : Int) != 45) = (b != 45) := by rw [Bool.eq_iff_iff]; simp only [bne_iff_ne, ne_eq]; omega
  have e6 : ((b : Int) != 58) = (b != 58) := by rw [Bool.eq_iff_iff]; simp only [bne_iff_ne, ne_eq]; omega
  rw [e1, e2, e3, e4, e5, e6, Bool.and_assoc]
theorem ris_loop (s : List UInt8) (hs : s.length ≤ 9223372036854775807) (st : St) : ∀ (f i : Nat), i ≤ s.length → s.length < f + i → g10b1010 f (.str s) (.int .i64 (i : Nat)) st = some (.ret (.bool (!((s.drop i).any oddB) && (decide (1 ≤ s.length) && decide (s.length ≤ 16)))), st) := by
  intro f
  induction f with
  | zero => intro i hi hf; omega
  | succ f ih =>
    intro i hi hf
    unfold g10b1010
    by_cases h : i < s.length
    · have e4 : ∀ K, A.bin .add (.int .i64 (i : Nat)) (.int .i64 1) K = K (.int .i64 ((i + 1 : Nat) : Int)) := fun K => bin_inc (by omega) K
      have ih' := ih (i + 1) (by omega) (by omega)
      have ho := odd_ints s[i].toNat
      have hd : (s.drop i).any oddB = (oddR s[i].toNat || (s.drop (i + 1)).any oddB) := by
        rw [List.drop_eq_getElem_cons h, List.any_cons]; rfl
      rw [hd, ho]
      simp only [lenS_str, bin_lss, show ((i : Int) < (s.length : Int)) from by omega, decide_true, cond_true, idxS_at h, bin_gtr]
      generalize decide (((s[i].toNat : Nat) : Int) < 97) = d1
      have b2 : ∀ K, A.bin .gtr (.int .u8 (s[i].toNat : Nat)) (.int .u8 122) K = K (.bool (decide ((122 : Int) < ((s[i].toNat : Nat) : Int)))) := fun K => by simp [bin_gtr]
      generalize decide ((122 : Int) < ((s[i].toNat : Nat) : Int)) = d2
      have fin : ∀ d : Bool, g10b101001000_29 (g10b1010 f) (.str s) (.int .i64 (i : Nat)) (.bool d) st = if (d && (((s[i].toNat : Nat) : Int) != 58)) = true then some (.ret (.bool false), st) else g10b1010 f (.str s) (.int .i64 ((i + 1 : Nat) : Int)) st := by
        intro d
        unfold g10b101001000_29
        cases d with
        | false => simp only [guard_ft, e4, Bool.false_and, Bool.false_eq_true, if_false]
        | true =>
          simp only [guard_tt, idxS_at h, eql_int, if_true, Bool.true_and]
          cases (((s[i].toNat : Nat) : Int) != 58) with
          | true => simp only [cond_true, er1_bool, if_true]
          | false => simp only [cond_false, e4, Bool.false_eq_true, if_false]
      have fin2 : ∀ d : Bool, g10b101001000_23 (g10b1010 f) (.str s) (.int .i64 (i : Nat)) (.bool d) st = if (d && ((((s[i].toNat : Nat) : Int) != 45) && (((s[i].toNat : Nat) : Int) != 58))) = true then some (.ret (.bool false), st) else g10b1010 f (.str s) (.int .i64 ((i + 1 : Nat) : Int)) st := by
        intro d
        unfold g10b101001000_23
        cases d with
        | false => simp only [guard_ft, fin, Bool.false_and]
        | true => simp only [guard_tt, idxS_at h, eql_int, if_true, fin, Bool.true_and]
      have fin3 : ∀ d : Bool, g10b101001000_11 (g10b1010 f) (.str s) (.int .i64 (i : Nat)) (.bool d) st = if (d && ((decide (((s[i].toNat : Nat) : Int) < 48) || decide ((57 : Int) < ((s[i].toNat : Nat) : Int))) && ((((s[i].toNat : Nat) : Int) != 45) && (((s[i].toNat : Nat) : Int) != 58)))) = true then some (.ret (.bool false), st) else g10b1010 f (.str s) (.int .i64 ((i + 1 : Nat) : Int)) st := by
        intro d
        unfold g10b101001000_11
        cases d with
        | false => simp only [guard_ft, fin2, Bool.false_and]
        | true =>
          simp only [guard_tt, idxS_at h, bin_lss, guardT_b]
          cases decide (((s[i].toNat : Nat) : Int) < 48) with
          | true => simp only [guard_tf, fin2, Bool.true_or, Bool.true_and]
          | false => simp only [guard_ff, bin_gtr, fin2, Bool.false_or, Bool.true_and]
      have last : ∀ d : Bool, (if (d && ((decide (((s[i].toNat : Nat) : Int) < 48) || decide ((57 : Int) < ((s[i].toNat : Nat) : Int))) && ((((s[i].toNat : Nat) : Int) != 45) && (((s[i].toNat : Nat) : Int) != 58)))) = true then some (Out.ret (.bool false), st) else g10b1010 f (.str s) (.int .i64 ((i + 1 : Nat) : Int)) st) = some (.ret (.bool (!(((d && (decide (((s[i].toNat : Nat) : Int) < 48) || decide ((57 : Int) < ((s[i].toNat : Nat) : Int)))) && ((((s[i].toNat : Nat) : Int) != 45) && (((s[i].toNat : Nat) : Int) != 58))) || (s.drop (i + 1)).any oddB) && (decide (1 ≤ s.length) && decide (s.length ≤ 16)))), st) := by
        intro d
        rw [ih', Bool.and_assoc]
        cases (d && ((decide (((s[i].toNat : Nat) : Int) < 48) || decide ((57 : Int) < ((s[i].toNat : Nat) : Int))) && ((((s[i].toNat : Nat) : Int) != 45) && (((s[i].toNat : Nat) : Int) != 58)))) with
        | true => simp
        | false => simp
      cases d1 with
      | true => simp only [guard_tf, fin3, Bool.true_or]; exact last true
      | false =>
        simp only [guard_ff, fin3, Bool.false_or]
        exact last d2
    · have : i = s.length := by omega
      subst this
      have h1 : decide ((1 : Int) ≤ (s.length : Int)) = decide (1 ≤ s.length) := decide_eq_decide.mpr (by omega)
      have h2 : decide ((s.length : Int) ≤ 16) = decide (s.length ≤ 16) := decide_eq_decide.mpr (by omega)
      simp only [lenS_str, bin_lss, Int.lt_irrefl, decide_false, cond_false, bin_geq, bin_leq, h1, h2, List.drop_length, List.any_nil, Bool.not_false, Bool.true_and]
      cases decide (1 ≤ s.length) with
      | true => simp only [guard_tt, er1_bool, Bool.true_and]
      | false => simp only [guard_ft, er1_bool, Bool.false_and]
theorem ris_s (s : List UInt8) (hs : s.length ≤ 9223372036854775807) (st : St) : s10 [.str s] st = some (.ret (.bool (isW s)), st) := by
  rw [s10_eq]
  unfold f10
  have := ris_loop s hs st big 0 (by omega) (lt_big (by omega))
  rw [show ((0 : Nat) : Int) = 0 from rfl] at this
  rw [this]
  unfold isW
  rw [List.drop_zero, show decide (1 ≤ s.length) = decide (s.length ≠ 0) from decide_eq_decide.mpr (by omega), Bool.and_comm]
theorem rid_loop (ws : List (List UInt8)) (t : Nat) (s : List UInt8) (hl : ws.length ≤ 100000) (st : St) : ∀ (f i : Nat), i ≤ ws.length → ws.length < f + i → g18b1010 f (.lst (strsV ws) t) (.str s) (.int .i64 (i : Nat)) st = some (.ret (match idxW s (ws.drop i) with | some k => .tup [.int .i64 ((i + k : Nat) : Int), .int .i64 0] | none => .tup [.int .i64 0, .int .i64 3]), st) := by
  intro f
  induction f with
  | zero => intro i hi hf; omega
  | succ f ih =>
    intro i hi hf
    unfold g18b1010
    by_cases h : i < ws.length
    · have e4 : ∀ K, A.bin .add (.int .i64 (i : Nat)) (.int .i64 1) K = K (.int .i64 ((i + 1 : Nat) : Int)) := fun K => bin_inc (by omega) K
      simp only [lenL_lst, strsV_len, bin_lss, show ((i : Int) < (ws.length : Int)) from by omega, decide_true, cond_true, iaddr_strs t h, load_l1', eql_str, Bool.false_eq_true, if_false]
      rw [List.drop_eq_getElem_cons h, idxW]
      by_cases he : s = ws[i]
      · have hb : (ws[i] == s) = true := by rw [he]; simp
        simp only [hb, cond_true, er1_int, if_pos he, Nat.add_zero]
      · have hb : (ws[i] == s) = false := by rw [beq_eq_false_iff_ne]; exact Ne.symm he
        simp only [hb, cond_false, e4, if_neg he]
        rw [ih (i + 1) (by omega) (by omega)]
        cases idxW s (ws.drop (i + 1)) with
        | none => rfl
        | some k => simp only [Option.map_some]; rw [show i + 1 + k = i + (k + 1) by omega]
    · have : i = ws.length := by omega
      subst this
      simp only [lenL_lst, strsV_len, bin_lss, Int.lt_irrefl, decide_false, cond_false, List.drop_length, idxW, er1_int]
theorem rid_s (ws : List (List UInt8)) (t : Nat) (s : List UInt8) (hl : ws.length ≤ 100000) (st : St) : s18 [.lst (strsV ws) t, .str s] st = some (.ret (match idxW s ws with | some k => .tup [.int .i64 (k : Nat), .int .i64 0] | none => .tup [.int .i64 0, .int .i64 3]), st) := by
  rw [s18_eq]
  unfold f18
  have := rid_loop ws t s hl st big 0 (by omega) (lt_big (by omega))
  rw [show ((0 : Nat) : Int) = 0 from rfl] at this
  rw [this, List.drop_zero]
  cases idxW s ws with
  | none => rfl
  | some k => simp
theorem rput_s (ws : List (List UInt8)) (t : Nat) (s : List UInt8) (hs : s.length ≤ 9223372036854775807) (hl : ws.length ≤ 100000) (st : St) :
    ∃ st' u, s19 [.lst (strsV ws) t, .str s] st = some (.ret (.tup [.lst (strsV (putW ws s).1) u, .int .i64 ((putW ws s).2.1 : Nat), .int .i64 ((putW ws s).2.2 : Nat)]), st') ∧ Ks st st' := by
  rw [s19_eq]
  unfold f19 putW
  simp only [er1_str, ris_s s hs, ret_ret, un_not]
  cases hw : isW s with
  | false =>
    simp only [Bool.not_false, cond_true, er1_lst, er1_int, if_true]
    exact ⟨st, t, rfl, Ks.refl st⟩
  | true =>
    simp only [Bool.not_true, cond_false, er1_lst, er1_str, rid_s ws t s hl, ret_ret, Bool.true_eq_false, if_false]
    cases hi : idxW s ws with
    | some k =>
      simp only [ext_0, ext_1]
      unfold g19b1101
      simp only [eql_int, Bool.false_eq_true, if_false, beq_self_eq_true, cond_true, er1_lst, er1_int]
      exact ⟨st, t, rfl, Ks.refl st⟩
    | none =>
      simp only [ext_0, ext_1]
      unfold g19b1101
      simp only [eql_int, Bool.false_eq_true, if_false, show ((3 : Int) == 0) = false from rfl, cond_false]
      unfold g19b111
      have bs : ∀ K, A.bslice 1 (.str []) 1 [(0, .str s)] K = K (.lst (strsV [s]) 2) := fun K => rfl
      have ho : Own st st 1 1 := .nil _ _ _
      have an : ∀ K, A.app 1 (.lst [] 1) (some (strsV ws)) st K = K (.lst (strsV ([] ++ ws)) (st.nt + 3)) (appSt st 1 1) := fun K => by
        rw [show (V.lst [] 1) = .lst (strsV []) 1 from rfl, app_own _ ho (by simp; omega) (szok_strs _), ← strsV_app]
      obtain ⟨ks2, ho2⟩ := ho.app (Ks.refl st)
      simp only [elemsOf_strs, an, List.nil_append]
      unfold g19b11111
      simp only [bs, elemsOf_strs]
      rw [app_own _ ho2 (by simp; omega) (szok_strs _), ← strsV_app]
      obtain ⟨ks3, ho3⟩ := ho2.app ks2
      simp only [lenL_lst, strsV_len, er1_lst, er1_int]
      exact ⟨_, _, rfl, ks3⟩
end Go.Ab

/- sinewref05.Sorted; sinewlaw05: WordsPlays. -/
namespace Go.Ab
open Go.Proofs Go.RowKit
set_option linter.unusedVariables false
set_option linter.unusedSimpArgs false
set_option maxRecDepth 100000
def zs (ks : List Nat) : List Int := ks.map fun (k : Nat) => (k : Int)
theorem zs_len (ks : List Nat) : (zs ks).length = ks.length := by simp [zs]
theorem zs_at {ks : List Nat} {i : Nat} (h : i < ks.length) : (zs ks)[i]'(by rw [zs_len]; exact h) = ((ks[i] : Nat) : Int) := by simp [zs]
/-- Where a word goes. -/
def placeW (ws : List (List UInt8)) (k : Nat) : List Nat → Nat
  | [] => 0
  | j :: l => if Op.bytesLess (ws.getD j []) (ws.getD k []) then placeW ws k l + 1 else 0
theorem placeW_le (ws : List (List UInt8)) (k : Nat) : ∀ l, placeW ws k l ≤ l.length
  | [] => Nat.le_refl _
  | j :: l => by unfold placeW; split <;> have := placeW_le ws k l <;> simp <;> omega
theorem insW_place (ws : List (List UInt8)) (k : Nat) : ∀ l, insW ws k l = l.take (placeW ws k l) ++ k :: l.drop (placeW ws k l)
  | [] => rfl
  | j :: l => by
    unfold insW placeW
    split
    · rw [insW_place ws k l]; rfl
    · rfl
theorem placeW_at (ws : List (List UInt8)) (k : Nat) : ∀ (l : List Nat) (i : Nat) (h : i < l.length), i < placeW ws k l → Op.bytesLess (ws.getD l[i] []) (ws.getD k []) = true
  | j :: l, i, h, hi => by
    unfold placeW at hi
    split at hi
    · rename_i hj
      cases i with
      | zero => exact hj
      | succ i => exact placeW_at ws k l i (by simpa using h) (by omega)
    · omega
theorem placeW_no (ws : List (List UInt8)) (k : Nat) : ∀ (l : List Nat) (h : placeW ws k l < l.length), Op.bytesLess (ws.getD (l[placeW ws k l]) []) (ws.getD k []) = false
  | j :: l, h => by
    unfold placeW at h
    by_cases hj : Op.bytesLess (ws.getD j []) (ws.getD k []) = true
    · rw [if_pos hj] at h
      have e : placeW ws k (j :: l) = placeW ws k l + 1 := by show (if _ then _ else _) = _; rw [if_pos hj]
      simp only [e, List.getElem_cons_succ]
      exact placeW_no ws k l (by simpa using h)
    · have e : placeW ws k (j :: l) = 0 := by show (if _ then _ else _) = _; rw [if_neg hj]
      simp only [e, List.getElem_cons_zero]
      simpa using hj
theorem rs_find (ws : List (List UInt8)) (L : V → V → V → St → Res) (t u : Nat) (l : List Nat) (i : Nat) (hi : i < ws.length) (hl : ∀ k ∈ l, k < ws.length) (hll : l.length ≤ 100000) (st : St) : ∀ (f k : Nat), k ≤ placeW ws i l → placeW ws i l < f + k →
    g20b110100100100 L f (.lst (strsV ws) t) (.lst (intsV (zs l)) u) (.int .i64 (i : Nat)) (.int .i64 (k : Nat)) st = g20b11010010011 L (.lst (strsV ws) t) (.lst (intsV (zs l)) u) (.int .i64 (i : Nat)) (.int .i64 (placeW ws i l : Nat)) st := by
  have hp := placeW_le ws i l
  intro f
  induction f with
  | zero => intro k hk hf; omega
  | succ f ih =>
    intro k hk hf
    unfold g20b110100100100
    by_cases h : k < l.length
    · have hkz : k < (zs l).length := by rw [zs_len]; exact h
      have hlk := hl _ (List.getElem_mem h)
      have e1 : ∀ K, A.iaddr 1 (.lst (intsV (zs l)) u) (.int .i64 (k : Nat)) K = K (.lptr [.int .i64 ((l[k] : Nat) : Int)]) := fun K => by rw [iaddr_ints u hkz, zs_at h]
      have g1 : ws.getD l[k] [] = ws[l[k]] := by rw [List.getD_eq_getElem?_getD, List.getElem?_eq_getElem hlk]; rfl
      have g2 : ws.getD i [] = ws[i] := by rw [List.getD_eq_getElem?_getD, List.getElem?_eq_getElem hi]; rfl
      have el : ∀ x y K, A.bin .lss (.str x) (.str y) K = K (.bool (Op.bytesLess x y)) := fun x y K => rfl
      simp only [lenL_lst, intsV_len, zs_len, bin_lss, show ((k : Int) < (l.length : Int)) from by omega, decide_true, guard_tt, e1, load_l1', iaddr_strs t hlk, iaddr_strs t hi, el]
      by_cases hkp : k < placeW ws i l
      · have := placeW_at ws i l k h hkp
        rw [g1, g2] at this
        have e4 : ∀ K, A.bin .add (.int .i64 (k : Nat)) (.int .i64 1) K = K (.int .i64 ((k + 1 : Nat) : Int)) := fun K => bin_inc (by omega) K
        simp only [this, cond_true, e4]
        exact ih (k + 1) (by omega) (by omega)
      · have hkk : k = placeW ws i l := by omega
        have hno := placeW_no ws i l (by omega)
        simp only [← hkk] at hno
        rw [g1, g2] at hno
        simp only [hno, cond_false, ← hkk]
    · have hkk : k = placeW ws i l := by omega
      simp only [lenL_lst, intsV_len, zs_len, bin_lss, show ¬ ((k : Int) < (l.length : Int)) from by omega, decide_false, guard_ft, ← hkk]
theorem sortW_succ (ws : List (List UInt8)) (i : Nat) : sortW ws (List.range (i + 1)) = insW ws i (sortW ws (List.range i)) := by
  unfold sortW; rw [List.range_succ, List.foldl_append]; rfl
theorem rs_loop (ws : List (List UInt8)) (t : Nat) (hw : ws.length ≤ 100000) (st0 : St) : ∀ (f i u : Nat) (st : St), i ≤ ws.length → ws.length < f + i → Ks st0 st →
    ∃ st' u', g20b11010 f (.lst (strsV ws) t) (.lst (intsV (zs (sortW ws (List.range i)))) u) (.int .i64 (i : Nat)) st = some (.ret (.lst (intsV (zs (sorted ws))) u'), st') ∧ Ks st0 st' := by
  intro f
  induction f with
  | zero => intro i u st hi hf; omega
  | succ f ih =>
    intro i u st hi hf ks
    unfold g20b11010
    by_cases h : i < ws.length
    · have hlm : ∀ k ∈ sortW ws (List.range i), k < ws.length := fun k hk => by
        have := (sortW_perm ws (List.range i)).mem_iff.1 hk
        have := List.mem_range.1 this; omega
      have hll : (sortW ws (List.range i)).length = i := by rw [(sortW_perm _ _).length_eq]; simp
      have hp := placeW_le ws i (sortW ws (List.range i))
      have e4 : ∀ K, A.bin .add (.int .i64 (i : Nat)) (.int .i64 1) K = K (.int .i64 ((i + 1 : Nat) : Int)) := fun K => bin_inc (by omega) K
      have hf2 := rs_find ws (g20b11010 f) t u (sortW ws (List.range i)) i h hlm (by omega) st big 0 (by omega) (lt_big (by omega))
      rw [show ((0 : Nat) : Int) = 0 from rfl] at hf2
      simp only [lenL_lst, strsV_len, bin_lss, show ((i : Int) < (ws.length : Int)) from by omega, decide_true, cond_true, hf2]
      unfold g20b11010010011
      generalize hpl : placeW ws i (sortW ws (List.range i)) = p at hp
      have bs : ∀ K, A.bslice 1 (.int .i64 0) 1 [(0, .int .i64 (i : Nat))] K = K (.lst (intsV [(i : Int)]) 2) := fun K => rfl
      have ho : Own st0 st 1 1 := .nil _ _ _
      have szl : (zs (sortW ws (List.range i))).length = i := by rw [zs_len, hll]
      have an : ∀ l K, l.length ≤ 100000 → A.app 1 (.lst [] 1) (some (intsV l)) st K = K (.lst (intsV l) (st.nt + 3)) (appSt st 1 1) := fun l K hl => by
        rw [show (V.lst [] 1) = .lst (intsV []) 1 from rfl, app_own _ ho (by simp; omega) (szok_ints _)]; rfl
      rw [slice_ints _ u p _ (by omega)]
      simp only [elemsOf_ints]
      rw [an _ _ (by rw [List.length_take]; omega)]
      obtain ⟨ks2, ho2⟩ := ho.app ks
      simp only [bs, elemsOf_ints]
      rw [app_own _ ho2 (by simp; omega) (szok_ints _)]
      obtain ⟨ks3, ho3⟩ := ho2.app ks2
      unfold g20b11010010011111
      have sf : ∀ K, A.slice 1 (.lst (intsV (zs (sortW ws (List.range i)))) u) (some (.int .i64 (p : Nat))) none none K = K (.lst (intsV ((zs (sortW ws (List.range i))).drop p)) u) := fun K => by
        rw [slice_from _ u 1 p K (by simp; omega) (szok_ints _)]
        simp [intsV, List.map_drop]
      simp only [sf, elemsOf_ints]
      rw [app_own _ ho3 (by simp; omega) (by rw [show intsV (List.take p (zs (sortW ws (List.range i)))) ++ intsV [(i : Int)] = intsV (List.take p (zs (sortW ws (List.range i))) ++ [(i : Int)]) by simp [intsV]]; exact szok_ints _)]
      obtain ⟨ks4, ho4⟩ := ho3.app ks3
      simp only [e4]
      have hz : intsV (List.take p (zs (sortW ws (List.range i)))) ++ intsV [(i : Int)] ++ intsV (List.drop p (zs (sortW ws (List.range i)))) = intsV (zs (sortW ws (List.range (i + 1)))) := by
        rw [sortW_succ, insW_place, hpl]
        simp [intsV, zs]
      rw [hz]
      exact ih (i + 1) _ _ (by omega) (by omega) ks4
    · have : i = ws.length := by omega
      subst this
      simp only [lenL_lst, strsV_len, bin_lss, Int.lt_irrefl, decide_false, cond_false, er1_lst]
      exact ⟨st, u, rfl, ks⟩
theorem rsorted_s (ws : List (List UInt8)) (t : Nat) (hw : ws.length ≤ 100000) (st : St) : ∃ st' u, s20 [.lst (strsV ws) t] st = some (.ret (.lst (intsV (zs (sorted ws))) u), st') ∧ Ks st st' := by
  rw [s20_eq]
  unfold f20
  exact rs_loop ws t hw st big 0 1 st (by omega) (lt_big (by omega)) (Ks.refl st)
end Go.Ab

/- sinewlaw05: WordsPlays. -/
namespace Go.Ab
open Go.Proofs Go.RowKit
set_option linter.unusedVariables false
set_option linter.unusedSimpArgs false
set_option maxRecDepth 100000
def idP (ws : List (List UInt8)) (s : List UInt8) : Nat × Nat := match idxW s ws with | some k => (k, 0) | none => (0, 3)
theorem id_p {st : St} {d mid t : Nat} {ws : List (List UInt8)} (h : DAt st d mid t ws) (s : List UInt8) : s17 [.ptr d 0, .str s] st = some (.ret (.tup [.int .i64 ((idP ws s).1 : Nat), .int .i64 ((idP ws s).2 : Nat)]), st) := by
  rw [id_s h]; unfold idP
  cases idxW s ws <;> rfl
theorem rid_p (ws : List (List UInt8)) (t : Nat) (s : List UInt8) (hl : ws.length ≤ 100000) (st : St) : s18 [.lst (strsV ws) t, .str s] st = some (.ret (.tup [.int .i64 ((idP ws s).1 : Nat), .int .i64 ((idP ws s).2 : Nat)]), st) := by
  rw [rid_s ws t s hl]; unfold idP
  cases idxW s ws <;> rfl
theorem plays_cmp {st0 st : St} {v : V} {ks : List Nat} (hs : SlAt st0 st v ks) (hl : ks.length ≤ 100000) (u : Nat) : ∀ (f i : Nat), i ≤ ks.length → ks.length < f + i → ∃ st', g6b111111111010 f v (.lst (intsV (zs ks)) u) (.int .i64 (i : Nat)) st = some (.ret (.bool true), st') := by
  intro f
  induction f with
  | zero => intro i hi hf; omega
  | succ f ih =>
    intro i hi hf
    unfold g6b111111111010
    simp only [slat_len hs, bin_lss]
    by_cases h : i < ks.length
    · have e4 : ∀ K, A.bin .add (.int .i64 (i : Nat)) (.int .i64 1) K = K (.int .i64 ((i + 1 : Nat) : Int)) := fun K => bin_inc (by omega) K
      have e1 : ∀ K, A.iaddr 1 (.lst (intsV (zs ks)) u) (.int .i64 (i : Nat)) K = K (.lptr [.int .i64 ((ks[i] : Nat) : Int)]) := fun K => by rw [iaddr_ints u (by rw [zs_len]; exact h), zs_at h]
      simp only [show ((i : Int) < (ks.length : Int)) from by omega, decide_true, cond_true]
      have := slat_at hs h (fun a4 z => A.iaddr 1 (.lst (intsV (zs ks)) u) (.int .i64 (i : Nat)) fun a5 => A.load false 1 a5 st fun a6 _ => A.eql 2 true a4 a6 fun a7 => A.cond a7 (some (.ret ((.bool false) : V).er1, st)) (A.bin .add (.int .i64 (i : Nat)) (.int .i64 1) fun a8 => g6b111111111010 f v (.lst (intsV (zs ks)) u) a8 st))
      rw [this]
      simp only [e1, load_l1', eql_int, if_true, bne_self_eq_false, cond_false, e4]
      exact ih (i + 1) (by omega) (by omega)
    · have : i = ks.length := by omega
      subst this
      obtain ⟨st', hw⟩ := awake_s st
      simp only [Int.lt_irrefl, decide_false, cond_false, hw, ret_ret, er1_bool]
      exact ⟨_, rfl⟩
theorem plays_end {d mid t u : Nat} {ws : List (List UInt8)} (hu : ws.Nodup) (hl : ws.length ≤ 1000) {st : St} (h : DAt st d mid t ws) : ∃ st', g6b1111111 (.ptr d 0) (.lst (strsV ws) u) st = some (.ret (.bool true), st') := by
  unfold g6b1111111
  obtain ⟨st1, v, q1, q2, q3⟩ := sorted_s h hu (by omega)
  obtain ⟨st2, u2, r1, r2⟩ := rsorted_s ws u (by omega) st1
  have h2 := dat_ks h (q3.trans r2)
  have hn := sorted_len ws
  have q2' : SlAt st st2 v (sorted ws) := by
    rcases q2 with g | ⟨id, g1, g2, g3, g4, g5⟩
    · exact .inl g
    · exact .inr ⟨id, g1, by rw [r2.ob _ g4]; exact g2, g3, Nat.lt_of_lt_of_le g4 r2.n, g5⟩
  simp only [er1_ptr, er1_lst, q1, ret_ret, r1, len_s h2, lenL_lst, strsV_len, eql_int, if_true, bne_self_eq_false, guard_ff, slat_len q2', intsV_len, zs_len, cond_false]
  unfold g6b111111111
  exact plays_cmp q2' (by omega) u2 big 0 (by omega) (lt_big (by omega))
theorem plays_word (x : Int) {d mid t u : Nat} {ws : List (List UInt8)} (hu : ws.Nodup) (hl : ws.length ≤ 1000) {st : St} (h : DAt st d mid t ws) : ∃ st', g6b11111 (.int .i64 x) (.ptr d 0) (.lst (strsV ws) u) st = some (.ret (.bool true), st') := by
  unfold g6b11111
  have hend := plays_end (u := u) hu hl h
  simp only [er1_ptr, er1_int, word_s h, ret_ret]
  by_cases hx : 0 ≤ x ∧ x.toNat < ws.length
  · rw [dif_pos hx]
    have hxx : x = ((x.toNat : Nat) : Int) := by omega
    have ia : ∀ K, A.iaddr 1 (.lst (strsV ws) u) (.int .i64 x) K = K (.lptr [.str ws[x.toNat]]) := fun K => by
      conv => lhs; rw [hxx]
      exact iaddr_strs u hx.2 K
    simp only [ext_0, ext_1, bin_geq, show (0 : Int) ≤ x from hx.1, decide_true, guard_tt, lenL_lst, strsV_len, bin_lss, show x < (ws.length : Int) from by omega]
    unfold g6b11111101
    simp only [cond_true, ia, load_l1', eql_str, if_true, bne_self_eq_false, guard_ff, eql_int, cond_false]
    exact hend
  · rw [dif_neg hx]
    have fin : ∃ st', g6b11111101 (.int .i64 x) (.ptr d 0) (.lst (strsV ws) u) (.str []) (.int .i64 3) (.bool false) st = some (.ret (.bool true), st') := by
      unfold g6b11111101
      simp only [cond_false, eql_str, if_true, bne_self_eq_false, guard_ff, eql_int]
      exact hend
    by_cases h0 : 0 ≤ x
    · simp only [ext_0, ext_1, bin_geq, h0, decide_true, guard_tt, lenL_lst, strsV_len, bin_lss, show ¬ x < (ws.length : Int) from by omega, decide_false]
      exact fin
    · simp only [ext_0, ext_1, bin_geq, h0, decide_false, guard_ft]
      exact fin
theorem plays_loop (l : List (List UInt8)) (hl : l.length ≤ 9223372036854775807) (hls : ∀ s ∈ l, s.length ≤ 9223372036854775807) (x : Int) {d mid : Nat} : ∀ (f i t u : Nat) (ws : List (List UInt8)) (st : St), i ≤ 200 → 200 < f + i → i ≤ l.length → ws.length ≤ i → ws.Nodup → DAt st d mid t ws →
    ∃ st', g6b1111010 f (.lst (strsV l) 0) (.int .i64 x) (.ptr d 0) (.lst (strsV ws) u) (.int .i64 (i : Nat)) st = some (.ret (.bool true), st') := by
  intro f
  induction f with
  | zero => intro i t u ws st hi hf; omega
  | succ f ih =>
    intro i t u ws st hi hf hil hw hu h
    unfold g6b1111010
    by_cases h1 : i < l.length
    · by_cases h2 : i < 200
      · have e4 : ∀ K, A.bin .add (.int .i64 (i : Nat)) (.int .i64 1) K = K (.int .i64 ((i + 1 : Nat) : Int)) := fun K => bin_inc (by omega) K
        have hsl := hls _ (List.getElem_mem h1)
        simp only [lenL_lst, strsV_len, bin_lss, show ((i : Int) < (l.length : Int)) from by omega, decide_true, guard_tt, show ((i : Int) < 200) from by omega, cond_true]
        unfold g6b111101001
        simp only [iaddr_strs 0 h1, load_l1', er1_ptr, er1_str, id_p h, ret_ret, ext_0, ext_1]
        unfold g6b111101001001
        simp only [iaddr_strs 0 h1, load_l1', er1_lst, er1_str, rid_p ws u l[i] (by omega), ret_ret, ext_0, ext_1]
        unfold g6b1111010010011
        obtain ⟨st1, u1, r1, r2⟩ := rput_s ws u l[i] hsl (by omega) st
        simp only [iaddr_strs 0 h1, load_l1', er1_lst, er1_str, r1, ret_ret, ext_0, ext_1, ext_2]
        unfold g6b11110100100111
        obtain ⟨st2, t2, q1, q2, q3⟩ := put_s (dat_ks h r2) (by omega) l[i]
        simp only [iaddr_strs 0 h1, load_l1', er1_ptr, er1_str, q1, ret_ret, ext_0, ext_1]
        unfold g6b111101001001111
        simp only [eql_int, if_true, bne_self_eq_false, guard_ff]
        unfold g6b11110100100111100_9
        simp only [guard_ff, eql_int, if_true, bne_self_eq_false, cond_false, e4]
        exact ih (i + 1) t2 u1 _ st2 (by omega) (by omega) (by omega) (by have := putW_len ws l[i]; omega) (putW_nodup hu _) q2
      · simp only [lenL_lst, strsV_len, bin_lss, show ((i : Int) < (l.length : Int)) from by omega, decide_true, guard_tt, show ¬ ((i : Int) < 200) from by omega, decide_false, cond_false]
        exact plays_word x hu (by omega) h
    · simp only [lenL_lst, strsV_len, bin_lss, show ¬ ((i : Int) < (l.length : Int)) from by omega, decide_false, guard_ft]
      exact plays_word x hu (by omega) h
theorem wordsPlays_law (l : List (List UInt8)) (hl : l.length ≤ 9223372036854775807) (hls : ∀ s ∈ l, s.length ≤ 9223372036854775807) (x : Int) (st : St) : ∃ st', s6 [.lst (strsV l) 0, .int .i64 x] st = some (.ret (.bool true), st') := by
  rw [s6_eq]
  unfold f6
  simp only [new_s, ret_ret, eql_ptr, cond_false]
  exact plays_loop l hl hls x big 0 1 1 [] _ (by omega) (lt_big (by omega)) (by omega) (by simp) (by simp) (new_at_d st)
theorem wordsPlays_row {W : World} {v0 v1 : Value} {x0 x1 : V} {n0 n1 : Nat}
    (r0 : Rs (E0 W) [x0] [v0]) (s0 : Sh Try.prog n0 23 x0.cells) (f0 : fit Try.prog 23 x0)
    (r1 : Rs (E0 W) [x1] [v1]) (s1 : Sh Try.prog n1 3 x1.cells) (f1 : fit Try.prog 3 x1) :
    Calls Try.prog 6 #[v0, v1] W fun e w' => e = .returned (.bool true) ∧ Below W.heap.size W w' := by
  obtain ⟨l, rfl, h1, h2⟩ := in_strs s0 f0 Try.underlying23 Try.underlying9
  obtain ⟨k, rfl, _⟩ := in_int s1 f1 Try.underlying3
  obtain ⟨st', hs⟩ := wordsPlays_law l h1 h2 k St0
  exact bool_row sim6 W _ _ _ hs (Rs.cons r0 r1)
end Go.Ab
