import Derived.Test.YtimidokohhiacaaAbA10d
/- sinew/query: the walk of text. -/
namespace Go.Ab
open Go.Proofs Go.RowKit
set_option linter.unusedVariables false
set_option linter.unusedSimpArgs false
set_option maxRecDepth 100000
theorem addB (a b : List UInt8) (h : a.length + b.length ≤ 100000000) (K : V → Res) : A.bin .add (.str a) (.str b) K = K (.str (a ++ b)) := by simp [A.bin, show a.length + b.length ≤ 4611686018427387904 by omega]
def kdsV (l : List Int) : List V := l.map (V.int .i64)
theorem idx_ints (l : List Int) (t : Nat) (k : Int) (hl : l.length ≤ 1000000) (st : St) : ∀ (n i : Nat), i ≤ l.length → l.length < n + i →
    ∃ (r : Int), g90b1010 n (.lst (kdsV l) t) (.int .i64 k) (.int .i64 (l.length : Nat)) (.int .i64 (i : Nat)) st = some (.ret (.int .i64 r), st) ∧ decide (0 ≤ r) = (l.drop i).contains k := by
  intro n
  induction n with
  | zero => intro i hi hn; omega
  | succ n ih =>
    intro i hi hn
    rw [g90b1010]
    simp only [bin_lss]
    by_cases hil : i < l.length
    · have e4 : ∀ K, A.bin .add (.int .i64 (i : Nat)) (.int .i64 1) K = K (.int .i64 ((i + 1 : Nat) : Int)) := fun K => bin_inc (by omega) K
      have ia : ∀ K, A.iaddr 1 (.lst (kdsV l) t) (.int .i64 (i : Nat)) K = K (.lptr [.int .i64 l[i]]) := fun K => iaddr_lst (v := .int .i64 l[i]) K (by simp [kdsV, hil]) rfl
      simp only [show ((i : Int) < (l.length : Int)) from by omega, decide_true, cond_true, ia, load_l1', eql_int, Bool.false_eq_true, if_false]
      rw [List.drop_eq_getElem_cons hil, List.contains_cons]
      cases h : (k == l[i]) with
      | true => exact ⟨i, rfl, by rw [decide_eq_true (by omega)]; rfl⟩
      | false =>
        rw [cond_false, e4, Bool.false_or]
        exact ih (i + 1) (by omega) (by omega)
    · have : i = l.length := by omega
      subst this
      simp only [Int.lt_irrefl, decide_false, cond_false, List.drop_length]
      exact ⟨-1, rfl, rfl⟩
theorem round_s (l : List Int) (t : Nat) (k : Int) (hl : l.length ≤ 1000000) (st : St) : s68 [.lst (kdsV l) t, .int .i64 k] st = some (.ret (.bool (l.contains k)), st) := by
  rw [s68_eq]
  unfold f68
  rw [er1_lst, er1_int, s90_eq]
  unfold f90
  have hlen : (kdsV l).length = l.length := by simp [kdsV]
  rw [lenL_lst, hlen]
  obtain ⟨r, q, hr⟩ := idx_ints l t k hl st big 0 (by omega) (lt_big (by omega))
  rw [show (.int .i64 0 : V) = .int .i64 ((0 : Nat) : Int) from rfl]
  rw [List.drop_zero] at hr
  rw [q, ret_ret]
  rw [show (.int .i64 ((0 : Nat) : Int) : V) = .int .i64 0 from rfl, bin_geq, er1_bool, hr]
theorem textsV_strs (ws : List (List UInt8)) : textsV (strsV ws) = some ws := by
  induction ws with
  | nil => rfl
  | cons w ws ih =>
    show textsV (V.str w :: strsV ws) = _
    rw [textsV, ih]
theorem inter_join (sep : List UInt8) : ∀ ts : List (List UInt8), sep.intercalate ts = joinL sep ts
  | [] => rfl
  | [t] => by simp [List.intercalate, List.intersperse, joinL, tlL]
  | t :: u :: ts => by
    have ih := inter_join sep (u :: ts)
    simp only [List.intercalate] at ih ⊢
    rw [List.intersperse_cons_cons, List.flatten_cons, List.flatten_cons, ih]
    rfl
theorem join_s (ts : List (List UInt8)) (u : Nat) (sep : List UInt8) (h1 : ts.length ≤ 1000000) (h2 : (joinL sep ts).length ≤ 1000000000) (st : St) : s32 [.lst (strsV ts) u, .str sep] st = some (.ret (.str (joinL sep ts)), st) := by
  rw [s32_v]
  unfold a32
  simp only [textsV_strs]
  have e : Lib.join ts sep = joinL sep ts := inter_join sep ts
  rw [e, if_pos ⟨by rw [strsV_len]; omega, by omega⟩]
/-- The kinds of which kids stand in brackets. -/
def rnd (m : Int) : List Int := if m = 3 then [3] else if m = 2 then [3, 2] else [3, 2, 4, 5, 6]
theorem rnd_wrap {m : Int} (hm : m = 2 ∨ m = 3 ∨ m = 4) {p : Pth} (h : p.shP = true) : (rnd m).contains p.kind = wrap m p.kind := by
  have hk : p.kind = 1 ∨ p.kind = 2 ∨ p.kind = 3 ∨ p.kind = 4 ∨ p.kind = 5 ∨ p.kind = 6 := by
    obtain ⟨k, w, l⟩ := p
    rcases shP_cases h with ⟨g, _⟩ | ⟨g, _⟩ | ⟨g, _⟩ <;> simp only [Pth.kind] <;> omega
  generalize p.kind = k at hk
  rcases hm with rfl | rfl | rfl <;> rcases hk with rfl | rfl | rfl | rfl | rfl | rfl <;> decide
theorem kid_len {m : Int} {p : Pth} (h : p.shP = true) : (kidR RT m p).length + 1 ≤ 20 * p.nd := by
  have : (p.rend RT).length + 3 ≤ 20 * p.nd := text_len p h
  unfold kidR brk
  split
  · simp only [List.length_append, List.length_cons, List.length_nil]; omega
  · omega
/-- Text, at a depth. -/
def TxtR (R : Nat → Fn) (p : Pth) : Prop := ∀ st, ∃ st', R 34 [p.v] st = some (.ret (.str p.text), st') ∧ Ks st st'
theorem kid_s {R : Nat → Fn} {m : Int} (hm : m = 2 ∨ m = 3 ∨ m = 4) {p : Pth} (h : p.shP = true) (hn : p.nd ≤ 100000) (hR : TxtR R p) (t : Nat) (st : St) : ∃ st', f67 R p.v (.lst (kdsV (rnd m)) t) st = some (.ret (.str (kidR RT m p)), st') ∧ Ks st st' := by
  unfold f67
  have bx : ∀ K : V → St → Res, A.box p.v st K = K (.ptr st.n 0) (st.new (.cells (pthC p))) := fun K => by rw [pth_c]; rfl
  rw [bx]
  have o1 := new_at st (.cells (pthC p))
  have k1 : Ks st (st.new (.cells (pthC p))) := (Ks.refl st).new _
  generalize st.new (.cells (pthC p)) = s1 at o1 k1 ⊢
  have w0 : ∀ K : V → St → Res, A.load false 1 (.ptr st.n 0) s1 K = K (.int .i64 p.kind) s1 := fun K => by rw [load_ob, o1]; rfl
  have w3 : ∀ K : V → St → Res, A.load true 3 (.ptr st.n 0) s1 K = K p.v s1 := fun K => by rw [load_obA, o1, pth_c]; rfl
  have hlen : (rnd m).length ≤ 1000000 := by rcases hm with rfl | rfl | rfl <;> decide
  have ht := text_len p h
  obtain ⟨s2, q2, k2⟩ := hR s1
  rw [faddr_ptr, Nat.zero_add, w0, er1_lst, er1_int, round_s (rnd m) t p.kind hlen, ret_ret, rnd_wrap hm h]
  unfold kidR
  cases wrap m p.kind with
  | true =>
    rw [cond_true, w3, pth_er, q2, ret_ret]
    have b1 : ∀ K, A.bin .add (.str [40]) (.str p.text) K = K (.str ([40] ++ p.text)) := addB _ _ (by simp; omega)
    have b2 : ∀ K, A.bin .add (.str ([40] ++ p.text)) (.str [41]) K = K (.str ([40] ++ p.text ++ [41])) := addB _ _ (by simp; omega)
    rw [b1, b2]
    exact ⟨s2, rfl, k1.trans k2⟩
  | false =>
    rw [cond_false, w3, pth_er, q2, ret_ret]
    exact ⟨s2, rfl, k1.trans k2⟩
/-- One loop of text. -/
structure TextL (R : Nat → Fn) (m : Int) (b : UInt8) (loop : Nat → V → V → V → V → V → St → Res) : Prop where
  eq : ∀ (f : Nat) (x3 x4 x19 x20 x21 : V) (st : St), loop (f + 1) x3 x4 x19 x20 x21 st = (A.bin .lss x21 x20 fun a1 =>
     A.cond a1
 (A.iaddr 3 x19 x21 fun a2 => A.load true 3 a2 st fun a3 z4 =>
 A.box (.agg [(.int .i64 0), (.str []), (.lst [] 1)]) z4 fun a5 z6 =>
 A.store 3 a5 a3 z6 fun z7 =>
 A.load true 3 a5 z7 fun a8 z9 =>
 A.bslice 1 (.int .i64 0) (rnd m).length (if m = 3 then [(0, (.int .i64 3))] else [(0, (.int .i64 3)), (1, (.int .i64 2))]) fun a10 =>
 A.call (g34T R) x3 [a8, a10] z9 fun a11 z12 =>
 A.bslice 1 (.str []) 1 [(0, a11)] fun a13 =>
 A.app 1 x4 (elemsOf 5 1 a13 z12) z12 fun a14 z15 =>
 A.bin .add x21 (.int .i64 1) fun a16 =>
 loop f x3 a14 x19 x20 a16 z15)
 (A.ret (s32 [x4.er1, ((.str [b]) : V).er1] st) fun a17 z18 =>
 some (.ret a17.er1, z18)))
theorem textL3 (R : Nat → Fn) : TextL R 3 124 (g34b1110101110010 R) := ⟨fun f x3 x4 x19 x20 x21 st => rfl⟩
theorem textL2 (R : Nat → Fn) : TextL R 2 47 (g34b111010111110010 R) := ⟨fun f x3 x4 x19 x20 x21 st => rfl⟩
theorem tlL_len (b : UInt8) (m : Int) : ∀ l : List Pth, (∀ p ∈ l, p.shP = true) → (tlL [b] (l.map (kidR RT m))).length ≤ 20 * Pth.ndl l
  | [], _ => Nat.zero_le _
  | p :: l, h => by
    have h1 := kid_len (m := m) (h p (by simp))
    have h2 := tlL_len b m l fun q hq => h q (by simp [hq])
    have e : tlL [b] ((p :: l).map (kidR RT m)) = [b] ++ (kidR RT m p ++ tlL [b] (l.map (kidR RT m))) := rfl
    rw [e, ndl_cons]
    simp only [List.length_append, List.length_cons, List.length_nil]; omega
theorem joinL_len (b : UInt8) (m : Int) (l : List Pth) (h : ∀ p ∈ l, p.shP = true) : (joinL [b] (l.map (kidR RT m))).length ≤ 20 * Pth.ndl l := by
  cases l with
  | nil => exact Nat.zero_le _
  | cons p l =>
    have := tlL_len b m (p :: l) h
    have e : tlL [b] ((p :: l).map (kidR RT m)) = [b] ++ joinL [b] ((p :: l).map (kidR RT m)) := rfl
    rw [e] at this
    simp only [List.length_append, List.length_cons, List.length_nil] at this; omega
theorem text_loop {R : Nat → Fn} {m : Int} (hm : m = 2 ∨ m = 3) {b : UInt8} {loop : Nat → V → V → V → V → V → St → Res} (hloop : TextL R m b loop) {l : List Pth} (t : Nat) (hl : Pth.ndl l ≤ 100000) (hs : ∀ p ∈ l, p.shP = true)
    (hR : ∀ p ∈ l, ∀ st t, ∃ st', R 67 [p.v, .lst (kdsV (rnd m)) t] st = some (.ret (.str (kidR RT m p)), st') ∧ Ks st st') {st0 : St} :
    ∀ (n i : Nat) (st : St) (u : Nat), i ≤ l.length → l.length < n + i → Ks st0 st → Own st0 st 1 u →
      ∃ st', loop n (.fn 67 [] []) (.lst (strsV ((l.take i).map (kidR RT m))) u) (.lst (l.map Pth.v) t) (.int .i64 (l.length : Nat)) (.int .i64 (i : Nat)) st = some (.ret (.str (joinL [b] (l.map (kidR RT m)))), st') ∧ Ks st0 st' := by
  intro n
  induction n with
  | zero => intro i st u hi hn; omega
  | succ n ih =>
    intro i st u hi hn hk ho
    have hll := ndl_len l
    rw [hloop.eq]
    simp only [bin_lss]
    by_cases hil : i < l.length
    · have e4 : ∀ K, A.bin .add (.int .i64 (i : Nat)) (.int .i64 1) K = K (.int .i64 ((i + 1 : Nat) : Int)) := fun K => bin_inc (by omega) K
      have bx : ∀ K : V → St → Res, A.box (.agg [(.int .i64 0), (.str []), (.lst [] 1)]) st K = K (.ptr st.n 0) (st.new (.cells [.int .i64 0, .str [], .lst [] 1])) := fun K => rfl
      simp only [show ((i : Int) < (l.length : Int)) from by omega, decide_true, cond_true, iaddr_pth t hil, load_pth, bx]
      rw [pth_store l[i] (new_at _ _) rfl, pth_load l[i] (put_at _ _ _)]
      have k2 : Ks st0 ((st.new (.cells [.int .i64 0, .str [], .lst [] 1])).put st.n (.cells (pthC l[i]))) := (hk.new _).put hk.n _
      have o2 : Own st0 ((st.new (.cells [.int .i64 0, .str [], .lst [] 1])).put st.n (.cells (pthC l[i]))) 1 u := own_put (own_new ho)
      generalize (st.new (.cells [.int .i64 0, .str [], .lst [] 1])).put st.n (.cells (pthC l[i])) = s2 at k2 o2 ⊢
      have bs : ∀ K, A.bslice 1 (.int .i64 0) (rnd m).length (if m = 3 then [(0, (.int .i64 3))] else [(0, (.int .i64 3)), (1, (.int .i64 2))]) K = K (.lst (kdsV (rnd m)) 2) := fun K => by rcases hm with rfl | rfl <;> rfl
      have call : ∀ (v w : V) (s : St) K, A.call (g34T R) (.fn 67 [] []) [v, w] s K = A.ret (R 67 [v.er1, w.er1] s) K := fun v w s K => rfl
      obtain ⟨s3, q3, k3⟩ := hR l[i] (List.getElem_mem hil) s2 2
      rw [bs, call, pth_er, er1_lst, q3, ret_ret]
      obtain ⟨s4, u4, q4, k4, o4, _, _⟩ := app_name (k2.trans k3) (o2.mono k3) (out := (l.take i).map (kidR RT m)) (by simp; omega) (kidR RT m l[i]) (fun a14 z15 => A.bin .add (.int .i64 (i : Nat)) (.int .i64 1) fun a16 => loop n (.fn 67 [] []) a14 (.lst (l.map Pth.v) t) (.int .i64 (l.length : Nat)) a16 z15)
      rw [q4, e4]
      have et : (l.take i).map (kidR RT m) ++ [kidR RT m l[i]] = (l.take (i + 1)).map (kidR RT m) := by
        rw [List.take_add_one, List.getElem?_eq_getElem hil, List.map_append]; rfl
      rw [et]
      exact ih (i + 1) s4 u4 (by omega) (by omega) k4 o4
    · have : i = l.length := by omega
      subst this
      simp only [Int.lt_irrefl, decide_false, cond_false, List.take_length, er1_lst, er1_str]
      have hj := joinL_len b m l hs
      rw [join_s (l.map (kidR RT m)) u [b] (by simp; omega) (by omega), ret_ret]
      exact ⟨st, rfl, hk⟩
theorem key_i (x : Int) : keyB Try.prog 3 (.int .i64 x) = true := by
  unfold keyB; rw [Try.underlying3]; rfl
def sgnMap : List (V × V) := [(.int .i64 4, .str [42]), (.int .i64 5, .str [43]), (.int .i64 6, .str [63])]
theorem sign_map (st : St) (K : V → St → Res) : ∃ st', (A.mkmap st fun a1 z2 => A.mapUpdK (keyB Try.prog 3 (.int .i64 4)) a1 (.int .i64 4) (.str [42]) z2 fun z3 => A.mapUpdK (keyB Try.prog 3 (.int .i64 5)) a1 (.int .i64 5) (.str [43]) z3 fun z4 => A.mapUpdK (keyB Try.prog 3 (.int .i64 6)) a1 (.int .i64 6) (.str [63]) z4 fun z5 => K a1 z5) = K (.map st.n) st' ∧ Ks st st' ∧ st'.ob st.n = some (.map sgnMap) := by
  have u1 : ∀ (s : St) (es : List (V × V)) (k : Int) (v : V) (K : St → Res), s.ob st.n = some (.map es) → findV (.int .i64 k) es 0 = some none → A.mapUpdK (keyB Try.prog 3 (.int .i64 k)) (.map st.n) (.int .i64 k) v s K = K (s.put st.n (.map (es ++ [(.int .i64 k, v)]))) := fun s es k v K ho hf => by
    rw [key_i]
    unfold A.mapUpdK
    rw [if_pos rfl]
    unfold A.mapUpd
    simp only [ho]
    rw [hf]
    rfl
  unfold A.mkmap
  dsimp only
  rw [u1 (st.new (.map [])) [] 4 (.str [42]) _ (new_at _ _) rfl]
  have o1 : ((st.new (.map [])).put st.n (.map ([] ++ [(V.int .i64 4, V.str [42])]))).ob st.n = some (.map [(V.int .i64 4, V.str [42])]) := put_at _ _ _
  rw [u1 _ [(V.int .i64 4, V.str [42])] 5 (.str [43]) _ o1 rfl]
  have o2 : (((st.new (.map [])).put st.n (.map ([] ++ [(V.int .i64 4, V.str [42])]))).put st.n (.map ([(V.int .i64 4, V.str [42])] ++ [(V.int .i64 5, V.str [43])]))).ob st.n = some (.map [(V.int .i64 4, V.str [42]), (V.int .i64 5, V.str [43])]) := put_at _ _ _
  rw [u1 _ [(V.int .i64 4, V.str [42]), (V.int .i64 5, V.str [43])] 6 (.str [63]) _ o2 rfl]
  exact ⟨_, rfl, ((((Ks.refl st).new _).put (Nat.le_refl _) _).put (Nat.le_refl _) _).put (Nat.le_refl _) _, put_at _ _ _⟩
theorem sign_look {st : St} {i : Nat} (h : st.ob i = some (.map sgnMap)) {k : Int} (hk : k = 4 ∨ k = 5 ∨ k = 6) (K : V → Res) : A.lookupK (keyB Try.prog 3 (.int .i64 k)) (.str []) false (.map i) (.int .i64 k) st K = K (.str [sgnB k]) := by
  rw [key_i]
  unfold A.lookupK
  rw [if_pos rfl]
  unfold A.lookup
  simp only [h]
  rcases hk with rfl | rfl | rfl <;> rfl
theorem text_go (n : Nat) (p : Pth) (hs : p.shP = true) (hnd : p.nd ≤ 100000) (hq : ∀ q ∈ p.kids, ∃ m, n = m + 1 ∧ TxtR (G34 m) q) : TxtR (G34 (n + 1)) p := by
  intro st
  obtain ⟨k, w, l⟩ := p
  rw [G34_34_eq]
  rw [nd_eq] at hnd
  have hll := ndl_len l
  have hkid : ∀ {m : Int}, (m = 2 ∨ m = 3 ∨ m = 4) → ∀ q ∈ l, q.shP = true → ∀ st t, ∃ st', G34 n 67 [q.v, .lst (kdsV (rnd m)) t] st = some (.ret (.str (kidR RT m q)), st') ∧ Ks st st' := fun {m} hm q hq1 hqs st t => by
    obtain ⟨m', rfl, ht⟩ := hq q hq1
    rw [G34_67_eq]
    exact kid_s hm hqs (by have := ndl_mem hq1; omega) ht t st
  have main : ∃ st', f34 (G34 n) (Pth.mk k w l).v st = some (.ret (.str (Pth.mk k w l).text), st') ∧ Ks st st' := by
    unfold f34
    have bx : ∀ K : V → St → Res, A.box (Pth.mk k w l).v st K = K (.ptr st.n 0) (st.new (.cells (pthC (.mk k w l)))) := fun K => by rw [pth_c]; rfl
    have o1 := new_at st (.cells (pthC (.mk k w l)))
    have k1 : Ks st (st.new (.cells (pthC (.mk k w l)))) := (Ks.refl st).new _
    have n1 : st.n < (st.new (.cells (pthC (.mk k w l)))).n := by simp
    rw [bx]
    generalize st.new (.cells (pthC (.mk k w l))) = s1 at o1 k1 n1 ⊢
    have w0 : ∀ K : V → St → Res, A.load false 1 (.ptr st.n 0) s1 K = K (.int .i64 k) s1 := fun K => by rw [load_ob, o1]; rfl
    have w1 : ∀ K : V → St → Res, A.load false 1 (.ptr st.n 1) s1 K = K (.str w) s1 := fun K => by rw [load_ob, o1]; rfl
    have w2 : ∀ K : V → St → Res, A.load false 1 (.ptr st.n 2) s1 K = K (.lst (l.map Pth.v) 0) s1 := fun K => by rw [load_ob, o1]; rfl
    simp only [faddr_ptr, Nat.zero_add, w0, eql_int, Bool.false_eq_true, if_false]
    rw [Pth.text, rend_eq]
    rcases shP_cases hs with ⟨rfl, rfl, hw⟩ | ⟨hk, rfl, hl, hqs⟩ | ⟨hk, rfl, q, rfl, hqs⟩
    · rw [show ((1 : Int) == 1) = true from rfl, cond_true, w1, er1_str, if_pos rfl]
      exact ⟨s1, rfl, k1⟩
    · have hk1 : k ≠ 1 := by rcases hk with rfl | rfl <;> decide
      rw [show (k == 1) = false from beq_eq_false_iff_ne.2 hk1, cond_false, if_neg hk1]
      by_cases h3 : k = 3
      · rw [show (k == 3) = true from by rw [h3]; rfl, cond_true, if_pos h3, w2, lenL_lst, List.length_map, rends_map]
        unfold g34b111010111001
        obtain ⟨st', r1, r2⟩ := text_loop (m := 3) (.inr rfl) (textL3 (G34 n)) 0 (by omega) hqs (fun q hq1 => hkid (.inr (.inl rfl)) q hq1 (hqs q hq1)) big 0 s1 1 (by omega) (lt_big (by omega)) (Ks.refl s1) (.inl rfl)
        exact ⟨st', r1, k1.trans r2⟩
      · have h2 : k = 2 := hk.resolve_right h3
        rw [show (k == 3) = false from beq_eq_false_iff_ne.2 h3, cond_false, if_neg h3, show (k == 2) = true from by rw [h2]; rfl, if_pos h2, rends_map]
        unfold g34b11101011111
        rw [cond_true, faddr_ptr, Nat.zero_add, w2, lenL_lst, List.length_map]
        obtain ⟨st', r1, r2⟩ := text_loop (m := 2) (.inl rfl) (textL2 (G34 n)) 0 (by omega) hqs (fun q hq1 => hkid (.inl rfl) q hq1 (hqs q hq1)) big 0 s1 1 (by omega) (lt_big (by omega)) (Ks.refl s1) (.inl rfl)
        exact ⟨st', r1, k1.trans r2⟩
    · have hk1 : k ≠ 1 ∧ k ≠ 3 ∧ k ≠ 2 := by rcases hk with rfl | rfl | rfl <;> decide
      rw [show (k == 1) = false from beq_eq_false_iff_ne.2 hk1.1, cond_false, if_neg hk1.1, show (k == 3) = false from beq_eq_false_iff_ne.2 hk1.2.1, cond_false, if_neg hk1.2.1, show (k == 2) = false from beq_eq_false_iff_ne.2 hk1.2.2, if_neg hk1.2.2]
      unfold g34b11101011111 g34b1111
      rw [cond_false]
      obtain ⟨s2, e2, k2, o2⟩ := sign_map s1 (fun a1 z5 => A.faddr 0 (.ptr st.n 0) fun a6 => A.load false 1 a6 z5 fun a7 z8 => A.lookupK (keyB Try.prog 3 a7) (.str []) false a1 a7 z8 fun a9 => A.faddr 2 (.ptr st.n 0) fun a10 => A.load false 1 a10 z8 fun a11 z12 => A.iaddr 3 a11 (.int .i64 0) fun a13 => A.load true 3 a13 z12 fun a14 z15 => A.bslice 1 (.int .i64 0) 5 [(0, (.int .i64 3)), (1, (.int .i64 2)), (2, (.int .i64 4)), (3, (.int .i64 5)), (4, (.int .i64 6))] fun a16 => A.call (g34T (G34 n)) (.fn 67 [] []) [a14, a16] z15 fun a17 z18 => A.bin .add a17 a9 fun a19 => some (.ret a19.er1, z18))
      rw [e2]
      have oc2 := (k2.ob st.n n1).trans o1
      have y0 : ∀ K : V → St → Res, A.load false 1 (.ptr st.n 0) s2 K = K (.int .i64 k) s2 := fun K => by rw [load_ob, oc2]; rfl
      have y2 : ∀ K : V → St → Res, A.load false 1 (.ptr st.n 2) s2 K = K (.lst ([q].map Pth.v) 0) s2 := fun K => by rw [load_ob, oc2]; rfl
      have bs : ∀ K, A.bslice 1 (.int .i64 0) 5 [(0, (.int .i64 3)), (1, (.int .i64 2)), (2, (.int .i64 4)), (3, (.int .i64 5)), (4, (.int .i64 6))] K = K (.lst (kdsV (rnd 4)) 2) := fun K => rfl
      have call : ∀ (v w : V) (s : St) K, A.call (g34T (G34 n)) (.fn 67 [] []) [v, w] s K = A.ret (G34 n 67 [v.er1, w.er1] s) K := fun v w s K => rfl
      have i0 : ∀ K, A.iaddr 3 (.lst ([q].map Pth.v) 0) (.int .i64 0) K = K (.lptr (pthC q)) := fun K => iaddr_pth (l := [q]) (i := 0) 0 (by simp) K
      rw [faddr_ptr, Nat.zero_add, y0, sign_look o2 hk, faddr_ptr, Nat.zero_add, y2, i0, load_pth, bs, call, pth_er, er1_lst]
      obtain ⟨s3, q3, k3⟩ := hkid (m := 4) (.inr (.inr rfl)) q (by simp) hqs s2 2
      have hkl := kid_len (m := 4) hqs
      rw [ndl_cons, ndl_nil] at hnd
      rw [q3, ret_ret, addB _ _ (by simp; omega)]
      exact ⟨s3, rfl, (k1.trans k2).trans k3⟩
  exact main
theorem text_n : ∀ (d n : Nat) (p : Pth), 2 * d ≤ n → p.sz.2 ≤ d + 1 → p.shP = true → p.nd ≤ 100000 → TxtR (G34 (n + 1)) p := by
  intro d
  induction d with
  | zero =>
    intro n p hn hd hs hnd
    exact text_go n p hs hnd fun q hq => by
      obtain ⟨k, w, l⟩ := p
      rw [sz_eq] at hd
      have := (szl_mem (show q ∈ l from hq)).2
      obtain ⟨k2, w2, l2⟩ := q
      rw [sz_eq] at this
      simp only at hd this
      omega
  | succ d ih =>
    intro n p hn hd hs hnd
    exact text_go n p hs hnd fun q hq => by
      obtain ⟨m, rfl⟩ : ∃ m, n = m + 2 := ⟨n - 2, by omega⟩
      refine ⟨m + 1, rfl, ?_⟩
      obtain ⟨k, w, l⟩ := p
      have hq' : q ∈ l := hq
      rw [sz_eq] at hd
      rw [nd_eq] at hnd
      have h1 := (szl_mem hq').2
      have h2 := ndl_mem hq'
      simp only at hd
      have hqs : q.shP = true := by
        rcases shP_cases hs with ⟨_, rfl, _⟩ | ⟨_, _, _, h⟩ | ⟨_, _, q3, rfl, h⟩
        · cases hq'
        · exact h q hq'
        · simp at hq'; rw [hq']; exact h
      exact ih m q (by omega) (by omega) hqs (by omega)
theorem text_s (p : Pth) (hs : p.shP = true) (hn : p.nd ≤ 100000) (st : St) : ∃ st', s34 [p.v] st = some (.ret (.str p.text), st') ∧ Ks st st' := by
  rw [s34_n]
  obtain ⟨M, hM, hM2⟩ := big_succ
  rw [hM]
  have := sz2_nd p
  exact text_n p.nd M p (by omega) (by omega) hs hn st
end Go.Ab
