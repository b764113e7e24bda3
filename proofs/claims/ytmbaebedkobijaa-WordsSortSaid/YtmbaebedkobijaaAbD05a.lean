import Derived.Test.YtmbaebedkobijaaAbP050
import Derived.Test.YtmbaebedkobijaaAbSpec
import Derived.Test.YtmbaebedkobijaaAbIn2
/- sinew/words: a dictionary. -/
namespace Go.Ab
open Go.Proofs Go.RowKit
set_option linter.unusedVariables false
set_option linter.unusedSimpArgs false
set_option maxRecDepth 100000
def idxW (s : List UInt8) : List (List UInt8) → Option Nat
  | [] => none
  | w :: l => if s = w then some 0 else (idxW s l).map (· + 1)
theorem idxW_some {s : List UInt8} : ∀ {ws : List (List UInt8)} {i : Nat}, idxW s ws = some i → ws[i]? = some s
  | [], i, h => by cases h
  | w :: l, i, h => by
    unfold idxW at h
    split at h
    · cases h; rename_i e; simp [e]
    · cases hq : idxW s l with
      | none => rw [hq] at h; cases h
      | some j => rw [hq] at h; cases h; simpa using idxW_some hq
theorem idxW_none {s : List UInt8} : ∀ {ws : List (List UInt8)}, idxW s ws = none → s ∉ ws
  | [], _ => by simp
  | w :: l, h => by
    unfold idxW at h
    split at h
    · cases h
    · rename_i e
      cases hq : idxW s l with
      | none => simp [e, idxW_none hq]
      | some j => rw [hq] at h; cases h
theorem idxW_lt {s : List UInt8} {ws : List (List UInt8)} {i : Nat} (h : idxW s ws = some i) : i < ws.length := (List.getElem?_eq_some_iff.1 (idxW_some h)).1
def mapF (k : Nat) (ws : List (List UInt8)) : List (V × V) := (ws.zipIdx k).map fun p => (V.str p.1, V.int .i64 (p.2 : Nat))
def mapW (ws : List (List UInt8)) : List (V × V) := mapF 0 ws
theorem mapW_snoc (ws : List (List UInt8)) (s : List UInt8) : mapW ws ++ [(V.str s, V.int .i64 (ws.length : Nat))] = mapW (ws ++ [s]) := by
  simp [mapW, mapF, List.zipIdx_append]
theorem find_map (s : List UInt8) : ∀ (ws : List (List UInt8)) (k j : Nat), findV (.str s) (mapF k ws) j = some ((idxW s ws).map fun i => (j + i, V.int .i64 ((k + i : Nat) : Int)))
  | [], k, j => rfl
  | w :: l, k, j => by
    unfold mapF
    rw [List.zipIdx_cons, List.map_cons, findV, idxW]
    show (match some (decide (s = w)) with | some true => _ | some false => _ | none => _) = _
    by_cases h : s = w
    · simp [h]
    · simp only [decide_eq_false h, if_neg h]
      have := find_map s l (k + 1) (j + 1)
      unfold mapF at this
      rw [this]
      cases idxW s l with
      | none => rfl
      | some i => simp; omega
structure DAt (st : St) (d mid t : Nat) (ws : List (List UInt8)) : Prop where
  ob : st.ob d = some (.cells [.map mid, .lst (strsV ws) t])
  mob : st.ob mid = some (.map (mapW ws))
  lt : d < st.n
  mlt : mid < st.n
  ne : d ≠ mid
  own : t = 1 ∨ t = 2 ∨ ∃ k, t = k + 3 ∧ k < st.nt ∧ st.tk k = some 1
@[simp] theorem eql_map (neg : Bool) (i : Nat) (K : V → Res) : A.eql 6 neg (.map i) .map0 K = K (.bool neg) := rfl
@[simp] theorem eql_map0 (neg : Bool) (K : V → Res) : A.eql 6 neg .map0 .map0 K = K (.bool !neg) := rfl
theorem key_str (s : List UInt8) : keyB Try.prog 9 (.str s) = true := by
  unfold keyB; rw [Try.underlying9]; rfl
theorem DAt.ld {st : St} {d mid t : Nat} {ws : List (List UInt8)} (h : DAt st d mid t ws) : (∀ K, A.load false 1 (.ptr d 0) st K = K (.map mid) st) ∧ (∀ K, A.load false 1 (.ptr d 1) st K = K (.lst (strsV ws) t) st) :=
  ⟨fun K => by simp [h.ob], fun K => by simp [h.ob]⟩
theorem given_s {st : St} {d mid t : Nat} {ws : List (List UInt8)} (h : DAt st d mid t ws) : s23 [.ptr d 0] st = some (.ret (.bool true), st) := by
  rw [s23_eq]
  unfold f23
  obtain ⟨l0, l1⟩ := h.ld
  simp only [eql_ptr, guard_tt, nilc_ptr, faddr_ptr, Nat.zero_add, l0, eql_map, er1_bool]
theorem new_s (st : St) : s11 [] st = some (.ret (.ptr (st.n + 1) 0), (st.new (.map [])).new (.cells [.map st.n, .lst [] 1])) := by
  rw [s11_eq]
  unfold f11
  have b : ∀ K, A.build [.map0, .lst [] 1] [(0, 1, .map st.n)] K = K (.agg [.map st.n, .lst [] 1]) := fun K => rfl
  have bx : ∀ K, A.box (.agg [.map st.n, .lst [] 1]) (st.new (.map [])) K = K (.ptr (st.n + 1) 0) ((st.new (.map [])).new (.cells [.map st.n, .lst [] 1])) := fun K => by
    have : (st.new (.map [])).n = st.n + 1 := by simp
    rw [← this]; rfl
  simp only [A.mkmap, b, bx, er1_ptr]
theorem new_at_d (st : St) : DAt ((st.new (.map [])).new (.cells [.map st.n, .lst [] 1])) (st.n + 1) st.n 1 [] := by
  have hn : (st.new (.map [])).n = st.n + 1 := by simp
  exact ⟨by rw [← hn]; exact new_at _ _, by rw [new_ne _ _ (by omega)]; exact new_at _ _, by simp, by simp; omega, by omega, .inl rfl⟩
theorem look_s {st : St} {d mid t : Nat} {ws : List (List UInt8)} (h : DAt st d mid t ws) (s : List UInt8) (K : V → Res) : A.lookupK (keyB Try.prog 9 (.str s)) (.int .i64 0) true (.map mid) (.str s) st K = K (match idxW s ws with | some i => .tup [.int .i64 (i : Nat), .bool true] | none => .tup [.int .i64 0, .bool false]) := by
  rw [key_str]
  unfold A.lookupK
  rw [if_pos rfl]
  unfold A.lookup
  have e := find_map s ws 0 0
  simp only [h.mob]
  unfold mapW
  rw [e]
  cases idxW s ws with
  | none => rfl
  | some i => simp [fob]
theorem id_s {st : St} {d mid t : Nat} {ws : List (List UInt8)} (h : DAt st d mid t ws) (s : List UInt8) : s17 [.ptr d 0, .str s] st = some (.ret (match idxW s ws with | some i => .tup [.int .i64 (i : Nat), .int .i64 0] | none => .tup [.int .i64 0, .int .i64 3]), st) := by
  rw [s17_eq]
  unfold f17
  obtain ⟨l0, l1⟩ := h.ld
  simp only [er1_ptr, given_s h, ret_ret, un_not, Bool.not_true, cond_false, nilc_ptr, faddr_ptr, Nat.zero_add, l0, look_s h]
  unfold g17b111
  cases idxW s ws with
  | none => simp only [ext_0, ext_1, un_not, Bool.not_false, cond_true, er1_int]
  | some i => simp only [ext_0, ext_1, un_not, Bool.not_true, cond_false, er1_int]
theorem word_s {st : St} {d mid t : Nat} {ws : List (List UInt8)} (h : DAt st d mid t ws) (x : Int) : s14 [.ptr d 0, .int .i64 x] st = some (.ret (if hx : 0 ≤ x ∧ x.toNat < ws.length then .tup [.str ws[x.toNat], .int .i64 0] else .tup [.str [], .int .i64 3]), st) := by
  rw [s14_eq]
  unfold f14
  obtain ⟨l0, l1⟩ := h.ld
  simp only [er1_ptr, given_s h, ret_ret, un_not, Bool.not_true, cond_false, bin_lss]
  by_cases h0 : x < 0
  · rw [dif_neg (by omega)]
    simp only [h0, decide_true, guard_tf, er1_str, er1_int]
  · simp only [h0, decide_false, guard_ff, nilc_ptr, faddr_ptr, Nat.zero_add, l1, lenL_lst, strsV_len, bin_geq]
    by_cases h1 : x.toNat < ws.length
    · rw [dif_pos ⟨by omega, h1⟩]
      have hx : x = ((x.toNat : Nat) : Int) := by omega
      have ia : ∀ K, A.iaddr 1 (.lst (strsV ws) t) (.int .i64 x) K = K (.lptr [.str ws[x.toNat]]) := fun K => by
        conv => lhs; rw [hx]
        exact iaddr_strs t h1 K
      simp only [show ¬ ((ws.length : Int) ≤ x) from by omega, decide_false, cond_false]
      unfold g14b111
      simp only [nilc_ptr, faddr_ptr, Nat.zero_add, l1, ia, load_l1', er1_str, er1_int]
    · rw [dif_neg (by omega)]
      simp only [show ((ws.length : Int) ≤ x) from by omega, decide_true, cond_true, er1_str, er1_int]
theorem len_s {st : St} {d mid t : Nat} {ws : List (List UInt8)} (h : DAt st d mid t ws) : s15 [.ptr d 0] st = some (.ret (.int .i64 (ws.length : Nat)), st) := by
  rw [s15_eq]
  unfold f15
  obtain ⟨l0, l1⟩ := h.ld
  simp only [er1_ptr, given_s h, ret_ret, un_not, Bool.not_true, cond_false, nilc_ptr, faddr_ptr, Nat.zero_add, l1, lenL_lst, strsV_len, er1_int]
/-- What Put leaves. -/
structure DFr (st st' : St) (d mid t t' : Nat) : Prop where
  n : st.n ≤ st'.n
  nt : st.nt ≤ st'.nt
  ob : ∀ i, i < st.n → i ≠ d → i ≠ mid → st'.ob i = st.ob i
  tk : ∀ k, k < st.nt → t ≠ k + 3 → st'.tk k = st.tk k
  tt : t' = t ∨ t' ≤ 2 ∨ st.nt + 3 ≤ t'
/-- What Put tells, and the words then. -/
def putW (ws : List (List UInt8)) (s : List UInt8) : List (List UInt8) × Nat × Nat :=
  if isW s = false then (ws, 0, 1) else match idxW s ws with | some i => (ws, i, 0) | none => (ws ++ [s], ws.length, 0)
theorem put_s {st : St} {d mid t : Nat} {ws : List (List UInt8)} (h : DAt st d mid t ws) (hl : ws.length ≤ 100000) (s : List UInt8) :
    ∃ st' t', s12 [.ptr d 0, .str s] st = some (.ret (.tup [.int .i64 ((putW ws s).2.1 : Nat), .int .i64 ((putW ws s).2.2 : Nat)]), st') ∧ DAt st' d mid t' (putW ws s).1 ∧ DFr st st' d mid t t' := by
  rw [s12_eq]
  unfold f12 putW
  obtain ⟨l0, l1⟩ := h.ld
  have fr0 : DFr st st d mid t t := ⟨Nat.le_refl _, Nat.le_refl _, fun _ _ _ _ => rfl, fun _ _ _ => rfl, .inl rfl⟩
  simp only [er1_ptr, er1_str, given_s h, ret_ret, un_not, Bool.not_true, guard_ff, is_s]
  cases hw : isW s with
  | false =>
    simp only [Bool.not_false, cond_true, er1_int, if_true]
    exact ⟨st, t, rfl, h, fr0⟩
  | true =>
    simp only [Bool.not_true, cond_false, Bool.true_eq_false, if_false]
    unfold g12b11
    simp only [nilc_ptr, faddr_ptr, Nat.zero_add, l0, look_s h]
    unfold g12b111
    cases hi : idxW s ws with
    | some i =>
      simp only [ext_0, ext_1, un_not, Bool.not_true, cond_false, er1_int]
      exact ⟨st, t, rfl, h, fr0⟩
    | none =>
      have hf := find_map s ws 0 0
      rw [hi] at hf
      have hup : ∀ K, A.mapUpdK (keyB Try.prog 9 (.str s)) (.map mid) (.str s) (.int .i64 (ws.length : Nat)) st K = K (st.put mid (.map (mapW (ws ++ [s])))) := fun K => by
        rw [key_str]
        unfold A.mapUpdK
        rw [if_pos rfl]
        unfold A.mapUpd
        simp only [h.mob]
        unfold mapW
        rw [hf]
        show K _ = _
        rw [show mapF 0 ws = mapW ws from rfl, mapW_snoc]
        rfl
      simp only [ext_0, ext_1, un_not, Bool.not_false, cond_true, nilc_ptr, faddr_ptr, Nat.zero_add, l1, lenL_lst, strsV_len, l0, hup]
      unfold g12b11101011
      have o1 : (st.put mid (.map (mapW (ws ++ [s])))).ob d = some (.cells [.map mid, .lst (strsV ws) t]) := by rw [put_ne _ _ h.ne]; exact h.ob
      have m1 : ∀ K, A.load false 1 (.ptr d 1) (st.put mid (.map (mapW (ws ++ [s])))) K = K (.lst (strsV ws) t) (st.put mid (.map (mapW (ws ++ [s])))) := fun K => by simp [o1]
      have bs : ∀ K, A.bslice 1 (.str []) 1 [(0, .str s)] K = K (.lst (strsV [s]) 2) := fun K => rfl
      have htok : Tok (st.put mid (.map (mapW (ws ++ [s])))) 1 t := by
        rcases h.own with g | g | ⟨k, g1, g2, g3⟩
        · exact .inl g
        · exact .inr (.inl g)
        · exact .inr (.inr ⟨k, g1, g3⟩)
      simp only [nilc_ptr, faddr_ptr, Nat.zero_add, m1, bs, elemsOf_strs]
      rw [app_tok _ htok (by simp; omega) (szok_strs _), ← strsV_app]
      have o2 : (appSt (st.put mid (.map (mapW (ws ++ [s])))) t 1).ob d = some (.cells [.map mid, .lst (strsV ws) t]) := by rw [appSt_ob]; exact o1
      have sw : ∀ u K, A.store 1 (.ptr d 1) (.lst (strsV (ws ++ [s])) u) (appSt (st.put mid (.map (mapW (ws ++ [s])))) t 1) K = K ((appSt (st.put mid (.map (mapW (ws ++ [s])))) t 1).put d (.cells [.map mid, .lst (strsV (ws ++ [s])) u])) := fun u K => by
        rw [store_lst, o2]; rfl
      simp only [sw, er1_int]
      refine ⟨_, st.nt + 3, rfl, ⟨put_at _ _ _, ?_, ?_, ?_, h.ne, .inr (.inr ⟨st.nt, rfl, ?_, ?_⟩)⟩, ⟨?_, ?_, fun i hi h1 h2 => ?_, fun k hk ht => ?_, .inr (.inr (Nat.le_refl _))⟩⟩
      · rw [put_ne _ _ (Ne.symm h.ne), appSt_ob]; exact put_at _ _ _
      · have := h.lt; simp; exact this
      · have := h.mlt; simp; exact this
      · simp
      · rw [put_tk]
        have := appSt_new (st.put mid (.map (mapW (ws ++ [s])))) t 1
        simpa using this
      · simp
      · simp
      · rw [put_ne _ _ h1, appSt_ob, put_ne _ _ h2]
      · rw [put_tk, appSt_tk _ _ _ _ (by simp; omega) ht, put_tk]
end Go.Ab
