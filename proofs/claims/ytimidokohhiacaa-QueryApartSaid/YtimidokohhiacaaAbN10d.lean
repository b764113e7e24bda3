import Derived.Test.YtimidokohhiacaaAbN10c
/- sinew/query: the walk of Print. -/
namespace Go.Ab
open Go.Proofs Go.RowKit
set_option linter.unusedVariables false
set_option linter.unusedSimpArgs false
set_option maxRecDepth 100000
theorem named_s (t : Tm) (h : t.n.length ≤ 1000) (st : St) : ∃ st', s33 [tmV t] st = some (.ret (.str (nameT t)), st') ∧ Ks st st' := by
  rw [s33_eq]
  unfold f33
  have bx : ∀ K : V → St → Res, A.box (tmV t) st K = K (.ptr st.n 0) (st.new (.cells [.bool t.v, .str t.n])) := fun K => rfl
  rw [bx]
  have o1 := new_at st (.cells [.bool t.v, .str t.n])
  have k1 : Ks st (st.new (.cells [.bool t.v, .str t.n])) := (Ks.refl st).new _
  generalize st.new (.cells [.bool t.v, .str t.n]) = s1 at o1 k1 ⊢
  have w0 : ∀ K : V → St → Res, A.load false 1 (.ptr st.n 0) s1 K = K (.bool t.v) s1 := fun K => by rw [load_ob, o1]; rfl
  have w1 : ∀ K : V → St → Res, A.load false 1 (.ptr st.n 1) s1 K = K (.str t.n) s1 := fun K => by rw [load_ob, o1]; rfl
  unfold nameT
  rw [faddr_ptr, Nat.zero_add, w0]
  cases t.v with
  | true =>
    rw [cond_true, faddr_ptr, Nat.zero_add, w1, addB _ _ (by simp; omega)]
    exact ⟨s1, rfl, k1⟩
  | false =>
    rw [cond_false, faddr_ptr, Nat.zero_add, w1]
    exact ⟨s1, rfl, k1⟩
theorem nameT_len (t : Tm) (h : isWord t.n = true) : (nameT t).length ≤ 17 := by
  have := (isWord_some h).2.1
  unfold nameT
  split
  · simp; omega
  · omega
theorem atT_len {a : AtP} (h : wellAt a) (hn : a.p.nd ≤ 10000) : (atT a).length ≤ 200100 := by
  have h1 := nameT_len a.s h.1
  have h2 := nameT_len a.o h.2.2
  have h3 := text_len a.p h.2.1
  unfold atT
  simp only [List.length_append, List.length_cons]; omega
theorem chT2_len {c : Chg} (h : okCh c = true) : (chT2 c).length ≤ 100 := by
  unfold okCh at h
  simp only [Bool.and_eq_true] at h
  have h1 := (isWord_some h.1).2.1
  have h2 := (isWord_some h.2.1).2.1
  have h3 := (isWord_some h.2.2).2.1
  have h4 := (isWord_some (how_word c)).2.1
  unfold chT2
  simp only [List.length_append, List.length_cons]; omega
theorem join_bd (sep : List UInt8) (B : Nat) : ∀ ts : List (List UInt8), (∀ t ∈ ts, t.length ≤ B) → (joinL sep ts).length ≤ ts.length * (B + sep.length) ∧ (tlL sep ts).length ≤ ts.length * (B + sep.length)
  | [], _ => ⟨Nat.zero_le _, Nat.zero_le _⟩
  | t :: ts, h => by
    have h1 := h t (by simp)
    have h2 := (join_bd sep B ts fun u hu => h u (by simp [hu])).2
    have e1 : joinL sep (t :: ts) = t ++ tlL sep ts := rfl
    have e2 : tlL sep (t :: ts) = sep ++ (t ++ tlL sep ts) := rfl
    rw [e1, e2]
    simp only [List.length_append, List.length_cons, Nat.add_mul, Nat.one_mul]
    omega
/-- The end of Print. -/
theorem print_end {c : Nat} {r : Rq} {st : St} (oc : st.ob c = some (.cells (rqC r))) (L : List (List UInt8)) (u : Nat) (hL : L.length ≤ 100) (hj : (joinL dot3 L).length ≤ 20000000) (hv : ∀ v ∈ r.vars, v.length ≤ 16) (hv2 : r.vars.length ≤ 6) :
    (A.ret (s32 [.lst (strsV L) u, .str [32, 46, 32]] st) fun a28 z29 => A.faddr 0 (.ptr c 0) fun a30 => A.load false 1 a30 z29 fun a31 z32 => A.eql 2 false a31 (.int .i64 1) fun a33 => A.cond a33 (A.faddr 1 (.ptr c 0) fun a34 => A.faddr 0 a34 fun a35 => A.load false 1 a35 z32 fun a36 z37 => A.ret (s32 [a36.er1, ((.str [32, 63]) : V).er1] z37) fun a38 z39 => A.bin .add (.str [115, 101, 108, 101, 99, 116, 32, 63]) a38 fun a40 => A.bin .add a40 (.str [32, 119, 104, 101, 114, 101, 32, 123, 32]) fun a41 => A.bin .add a41 a28 fun a42 => A.bin .add a42 (.str [32, 125]) fun a43 => some (.ret (.tup [a43.er1, ((.int .i64 0) : V).er1]), z39)) (some (.ret (.tup [a28.er1, ((.int .i64 0) : V).er1]), z32))) =
    some (.ret (.tup [.str (if r.kind = 1 then selQ ++ (joinL [32, 63] r.vars ++ (whrQ ++ (joinL dot3 L ++ [32, 125]))) else joinL dot3 L), .int .i64 0]), st) := by
  have w0 : ∀ K : V → St → Res, A.load false 1 (.ptr c 0) st K = K (.int .i64 r.kind) st := fun K => by rw [load_ob, oc]; rfl
  have w1 : ∀ K : V → St → Res, A.load false 1 (.ptr c 1) st K = K (.lst (strsV r.vars) 0) st := fun K => by rw [load_ob, oc]; rfl
  rw [show s32 [.lst (strsV L) u, .str [32, 46, 32]] st = some (.ret (.str (joinL dot3 L)), st) from join_s L u [32, 46, 32] (by omega) (by have : (joinL dot3 L).length = (joinL [32, 46, 32] L).length := rfl; omega) st, ret_ret]
  simp only [faddr_ptr, Nat.zero_add, w0, eql_int, Bool.false_eq_true, if_false]
  by_cases h1 : r.kind = 1
  · have hj2 := (join_bd [32, 63] 16 r.vars hv).1
    have hj3 : r.vars.length * (16 + [32, 63].length) ≤ 108 := by simp; omega
    rw [show (r.kind == 1) = true from by rw [h1]; rfl, cond_true, if_pos h1, w1, er1_lst, er1_str, join_s r.vars 0 [32, 63] (by omega) (by omega) st, ret_ret]
    rw [addB _ _ (by simp; omega), addB _ _ (by simp; omega), addB _ _ (by simp; omega), addB _ _ (by simp; omega)]
    simp only [er1_str, er1_int]
    congr 6
    simp [selQ, whrQ]
  · rw [show (r.kind == 1) = false from beq_eq_false_iff_ne.2 h1, cond_false, if_neg h1]
    rfl
theorem print_atoms {c : Nat} {r : Rq} {st0 : St} (hc : c < st0.n) (oc : st0.ob c = some (.cells (rqC r))) (A0 : List (List UInt8)) (hA : A0.length ≤ 64) (hA2 : ∀ t ∈ A0, t.length ≤ 100) (hat : ∀ a ∈ r.atoms, wellAt a ∧ a.p.nd ≤ 10000) (hal : r.atoms.length ≤ 6) (hv : ∀ v ∈ r.vars, v.length ≤ 16) (hv2 : r.vars.length ≤ 6) :
    ∀ (n i : Nat) (st : St) (u : Nat), i ≤ r.atoms.length → r.atoms.length < n + i → Ks st0 st → Own st0 st 1 u →
      ∃ st', g17b1111010 n (.ptr c 0) (.lst (strsV (A0 ++ (r.atoms.take i).map atT)) u) (.lst (r.atoms.map atpV) 0) (.int .i64 (r.atoms.length : Nat)) (.int .i64 (i : Nat)) st = some (.ret (.tup [.str (if r.kind = 1 then selQ ++ (joinL [32, 63] r.vars ++ (whrQ ++ (joinL dot3 (A0 ++ r.atoms.map atT) ++ [32, 125]))) else joinL dot3 (A0 ++ r.atoms.map atT)), .int .i64 0]), st') ∧ Ks st0 st' := by
  intro n
  induction n with
  | zero => intro i st u hi hn; omega
  | succ n ih =>
    intro i st u hi hn hk ho
    rw [g17b1111010]
    rw [bin_lss]
    by_cases hil : i < r.atoms.length
    · have e4 : ∀ K, A.bin .add (.int .i64 (i : Nat)) (.int .i64 1) K = K (.int .i64 ((i + 1 : Nat) : Int)) := fun K => bin_inc (by omega) K
      have ld : ∀ (s : St) K, A.load true 7 (.lptr (atpC r.atoms[i])) s K = K (.agg (atpC r.atoms[i])) s := fun s K => by rw [load_lptrA]; rfl
      rw [decide_eq_true (show ((i : Int) < (r.atoms.length : Int)) by omega), cond_true, iaddr_atp 0 hil, ld, bx_atp, sv_all 7 _ (new_at _ _) rfl rfl rfl]
      obtain ⟨hw, hnd⟩ := hat r.atoms[i] (List.getElem_mem hil)
      have k2 : Ks st0 ((st.new (.cells [(.bool false), (.str []), (.int .i64 0), (.str []), (.lst [] 1), (.bool false), (.str [])])).put st.n (.cells (atpC r.atoms[i]))) := (hk.new _).put hk.n _
      have ow2 : Own st0 ((st.new (.cells [(.bool false), (.str []), (.int .i64 0), (.str []), (.lst [] 1), (.bool false), (.str [])])).put st.n (.cells (atpC r.atoms[i]))) 1 u := own_put (own_new ho)
      have o2 := put_at (st.new (.cells [(.bool false), (.str []), (.int .i64 0), (.str []), (.lst [] 1), (.bool false), (.str [])])) st.n (.cells (atpC r.atoms[i]))
      have n2 : ((st.new (.cells [(.bool false), (.str []), (.int .i64 0), (.str []), (.lst [] 1), (.bool false), (.str [])])).put st.n (.cells (atpC r.atoms[i]))).n = st.n + 1 := by simp
      generalize (st.new (.cells [(.bool false), (.str []), (.int .i64 0), (.str []), (.lst [] 1), (.bool false), (.str [])])).put st.n (.cells (atpC r.atoms[i])) = s2 at k2 ow2 o2 n2 ⊢
      have L0 : ∀ {s : St}, s.ob st.n = some (.cells (atpC r.atoms[i])) → ∀ K : V → St → Res, A.load true 2 (.ptr st.n 0) s K = K (tmV r.atoms[i].s) s := fun {s} h K => by rw [load_obA, h]; rfl
      have L2 : ∀ {s : St}, s.ob st.n = some (.cells (atpC r.atoms[i])) → ∀ K : V → St → Res, A.load true 3 (.ptr st.n 2) s K = K (r.atoms[i].p).v s := fun {s} h K => by rw [load_obA, h, pth_c]; rfl
      have L5 : ∀ {s : St}, s.ob st.n = some (.cells (atpC r.atoms[i])) → ∀ K : V → St → Res, A.load true 2 (.ptr st.n 5) s K = K (tmV r.atoms[i].o) s := fun {s} h K => by rw [load_obA, h]; rfl
      have V2 : ∀ {s : St}, s.ob st.n = some (.cells (atpC r.atoms[i])) → ldv true 3 (.ptr st.n 2) s = some (r.atoms[i].p).v := fun {s} h => by unfold ldv; rw [L2 h]; rfl
      have V5 : ∀ {s : St}, s.ob st.n = some (.cells (atpC r.atoms[i])) → ldv true 2 (.ptr st.n 5) s = some (tmV r.atoms[i].o) := fun {s} h => by unfold ldv; rw [L5 h]; rfl
      obtain ⟨s3, q3, k3⟩ := named_s r.atoms[i].s (by have := (isWord_some hw.1).2.1; omega) s2
      have n3 := k3.n
      have o3 := (k3.ob st.n (by omega)).trans o2
      obtain ⟨s4, q4, k4⟩ := text_s r.atoms[i].p hw.2.1 (by omega) s3
      have n4 := k4.n
      have o4 := (k4.ob st.n (by omega)).trans o3
      obtain ⟨s5, q5, k5⟩ := named_s r.atoms[i].o (by have := (isWord_some hw.2.2).2.1; omega) s4
      have b1 := nameT_len _ hw.1
      have b2 := nameT_len _ hw.2.2
      have b3 := text_len _ hw.2.1
      rw [faddr_ptr, Nat.zero_add, L0 o2, show (tmV r.atoms[i].s).er1 = tmV r.atoms[i].s from rfl, q3, ret_kid, noP_ret, addB _ _ (by simp; omega), faddr_ptr, Nat.zero_add, L2 o3, V2 o2, chk_same, pth_er, q4, ret_kid, noP_ret, addB _ _ (by simp; omega), addB _ _ (by simp; omega), faddr_ptr, Nat.zero_add, L5 o4, V5 o3, chk_same, V5 o2, chk_same, show (tmV r.atoms[i].o).er1 = tmV r.atoms[i].o from rfl, q5, ret_kid, ret_ret, addB _ _ (by simp; omega)]
      have bs : ∀ (t : List UInt8) K, A.bslice 1 (.str []) 1 [(0, .str t)] K = K (.lst (strsV [t]) 2) := fun t K => rfl
      have kk := ((k2.trans k3).trans k4).trans k5
      have oo := ((ow2.mono k3).mono k4).mono k5
      obtain ⟨k6, o6⟩ := oo.app kk
      rw [bs, elemsOf_strs, app_own _ oo (by simp; omega) (szok_strs _), kid_eq, ret_ret, e4, ← strsV_app]
      have et : (A0 ++ (r.atoms.take i).map atT) ++ [nameT r.atoms[i].s ++ [32] ++ r.atoms[i].p.text ++ [32] ++ nameT r.atoms[i].o] = A0 ++ (r.atoms.take (i + 1)).map atT := by
        rw [List.take_add_one, List.getElem?_eq_getElem hil, List.map_append, List.append_assoc]
        simp [atT]
      rw [et]
      exact ih (i + 1) _ _ (by omega) (by omega) k6 o6
    · have : i = r.atoms.length := by omega
      subst this
      rw [decide_eq_false (show ¬ ((r.atoms.length : Int) < (r.atoms.length : Int)) by omega), cond_false, List.take_length, er1_lst, er1_str]
      have o := (hk.ob c hc).trans oc
      have hj := (join_bd dot3 200100 (A0 ++ r.atoms.map atT) (fun t ht => by
        rcases List.mem_append.1 ht with g | g
        · have := hA2 t g; omega
        · obtain ⟨a, ha, rfl⟩ := List.mem_map.1 g
          exact atT_len (hat a ha).1 (hat a ha).2)).1
      have hlen : (A0 ++ r.atoms.map atT).length ≤ 70 := by simp; omega
      have h3 : dot3.length = 3 := rfl
      rw [h3] at hj
      have hmul : (A0 ++ r.atoms.map atT).length * (200100 + 3) ≤ 70 * (200100 + 3) := Nat.mul_le_mul_right _ hlen
      rw [print_end o (A0 ++ r.atoms.map atT) u (by omega) (by omega) hv hv2]
      exact ⟨st, rfl, hk⟩
theorem print_chs {c : Nat} {r : Rq} {st0 : St} (hc : c < st0.n) (oc : st0.ob c = some (.cells (rqC r))) (hcs : ∀ c ∈ r.ch, okCh c = true) (hcl : r.ch.length ≤ 64) (hat : ∀ a ∈ r.atoms, wellAt a ∧ a.p.nd ≤ 10000) (hal : r.atoms.length ≤ 6) (hv : ∀ v ∈ r.vars, v.length ≤ 16) (hv2 : r.vars.length ≤ 6) :
    ∀ (n i : Nat) (st : St) (u : Nat), i ≤ r.ch.length → r.ch.length < n + i → Ks st0 st → Own st0 st 1 u →
      ∃ st', g17b111010 n (.ptr c 0) (.lst (strsV ((r.ch.take i).map chT2)) u) (.lst (r.ch.map chV) 0) (.int .i64 (r.ch.length : Nat)) (.int .i64 (i : Nat)) st = some (.ret (.tup [.str (if r.kind = 1 then selQ ++ (joinL [32, 63] r.vars ++ (whrQ ++ (joinL dot3 (r.ch.map chT2 ++ r.atoms.map atT) ++ [32, 125]))) else joinL dot3 (r.ch.map chT2 ++ r.atoms.map atT)), .int .i64 0]), st') ∧ Ks st0 st' := by
  intro n
  induction n with
  | zero => intro i st u hi hn; omega
  | succ n ih =>
    intro i st u hi hn hk ho
    rw [g17b111010]
    rw [bin_lss]
    by_cases hil : i < r.ch.length
    · have e4 : ∀ K, A.bin .add (.int .i64 (i : Nat)) (.int .i64 1) K = K (.int .i64 ((i + 1 : Nat) : Int)) := fun K => bin_inc (by omega) K
      have ld : ∀ (s : St) K, A.load true 4 (.lptr (chC r.ch[i])) s K = K (.agg (chC r.ch[i])) s := fun s K => by rw [load_lptrA]; rfl
      have bx : ∀ K : V → St → Res, A.box (.agg [(.bool false), (.str []), (.str []), (.str [])]) st K = K (.ptr st.n 0) (st.new (.cells [.bool false, .str [], .str [], .str []])) := fun K => rfl
      rw [decide_eq_true (show ((i : Int) < (r.ch.length : Int)) by omega), cond_true, iaddr_ch 0 hil, ld, bx, sv_all 4 _ (new_at _ _) rfl rfl rfl]
      have hok := hcs r.ch[i] (List.getElem_mem hil)
      have k2 : Ks st0 ((st.new (.cells [.bool false, .str [], .str [], .str []])).put st.n (.cells (chC r.ch[i]))) := (hk.new _).put hk.n _
      have ow2 : Own st0 ((st.new (.cells [.bool false, .str [], .str [], .str []])).put st.n (.cells (chC r.ch[i]))) 1 u := own_put (own_new ho)
      have o2 := put_at (st.new (.cells [.bool false, .str [], .str [], .str []])) st.n (.cells (chC r.ch[i]))
      generalize (st.new (.cells [.bool false, .str [], .str [], .str []])).put st.n (.cells (chC r.ch[i])) = s2 at k2 ow2 o2 ⊢
      have w0 : ∀ K : V → St → Res, A.load false 1 (.ptr st.n 0) s2 K = K (.bool r.ch[i].gone) s2 := fun K => by rw [load_ob, o2]; rfl
      have w1 : ∀ K : V → St → Res, A.load false 1 (.ptr st.n 1) s2 K = K (.str r.ch[i].s) s2 := fun K => by rw [load_ob, o2]; rfl
      have w2 : ∀ K : V → St → Res, A.load false 1 (.ptr st.n 2) s2 K = K (.str r.ch[i].p) s2 := fun K => by rw [load_ob, o2]; rfl
      have w3 : ∀ K : V → St → Res, A.load false 1 (.ptr st.n 3) s2 K = K (.str r.ch[i].o) s2 := fun K => by rw [load_ob, o2]; rfl
      have how : ∃ st', g17b11101001100111 (g17b111010 n) (.ptr c 0) (.lst (strsV ((r.ch.take i).map chT2)) u) (.ptr st.n 0) (.str (howW r.ch[i])) (.lst (r.ch.map chV) 0) (.int .i64 (r.ch.length : Nat)) (.int .i64 (i : Nat)) s2 = some (.ret (.tup [.str (if r.kind = 1 then selQ ++ (joinL [32, 63] r.vars ++ (whrQ ++ (joinL dot3 (r.ch.map chT2 ++ r.atoms.map atT) ++ [32, 125]))) else joinL dot3 (r.ch.map chT2 ++ r.atoms.map atT)), .int .i64 0]), st') ∧ Ks st0 st' := by
        unfold g17b11101001100111
        have bs4 : ∀ K, A.bslice 1 (.str []) 4 [(0, .str (howW r.ch[i])), (1, .str r.ch[i].s), (2, .str r.ch[i].p), (3, .str r.ch[i].o)] K = K (.lst (strsV [howW r.ch[i], r.ch[i].s, r.ch[i].p, r.ch[i].o]) 2) := fun K => rfl
        simp only [faddr_ptr, Nat.zero_add, w1, w2, w3, bs4, er1_lst, er1_str, show 1 + 1 = 2 from rfl, show 1 + 2 = 3 from rfl]
        have ej : joinL [32] [howW r.ch[i], r.ch[i].s, r.ch[i].p, r.ch[i].o] = chT2 r.ch[i] := by simp [joinL, tlL, chT2]
        have hcl2 := chT2_len hok
        rw [join_s [howW r.ch[i], r.ch[i].s, r.ch[i].p, r.ch[i].o] 2 [32] (by simp) (by rw [ej]; omega), ret_ret, ej]
        obtain ⟨s4, u4, q4, k4, o4, _, _⟩ := app_name k2 ow2 (out := (r.ch.take i).map chT2) (by simp; omega) (chT2 r.ch[i]) (fun a17 z18 => A.bin .add (.int .i64 (i : Nat)) (.int .i64 1) fun a19 => g17b111010 n (.ptr c 0) a17 (.lst (r.ch.map chV) 0) (.int .i64 (r.ch.length : Nat)) a19 z18)
        rw [q4, e4]
        have et : (r.ch.take i).map chT2 ++ [chT2 r.ch[i]] = (r.ch.take (i + 1)).map chT2 := by
          rw [List.take_add_one, List.getElem?_eq_getElem hil, List.map_append]; rfl
        rw [et]
        exact ih (i + 1) s4 u4 (by omega) (by omega) k4 o4
      rw [faddr_ptr, Nat.zero_add, w0]
      unfold howW at how
      cases hg : r.ch[i].gone with
      | true => rw [hg] at how; rw [cond_true]; exact how
      | false => rw [hg] at how; rw [cond_false]; exact how
    · have : i = r.ch.length := by omega
      subst this
      rw [decide_eq_false (show ¬ ((r.ch.length : Int) < (r.ch.length : Int)) by omega), cond_false, List.take_length]
      have o := (hk.ob c hc).trans oc
      unfold g17b1111
      have w2 : ∀ K : V → St → Res, A.load false 1 (.ptr c 2) st K = K (.lst (r.atoms.map atpV) 0) st := fun K => by rw [load_ob, o]; rfl
      simp only [faddr_ptr, Nat.zero_add, show 1 + 1 = 2 from rfl, w2, lenL_lst, List.length_map]
      have := print_atoms hc oc (r.ch.map chT2) (by simp; omega) (fun t ht => by obtain ⟨x, hx, rfl⟩ := List.mem_map.1 ht; exact chT2_len (hcs x hx)) hat hal hv hv2 big 0 st u (by omega) (lt_big (by omega)) hk ho
      rw [List.take_zero, List.map_nil, List.append_nil] at this
      exact this
/-- All that Print asks for. -/
def okP (r : Rq) : Prop := okW r ∧ ∀ a ∈ r.atoms, a.p.nd ≤ 10000
theorem okAll_bd {r : Rq} (h : okAll r = true) : r.vars.length ≤ 6 ∧ r.atoms.length ≤ 6 ∧ r.ch.length ≤ 64 := by
  have := whyP_zero (ok_well h).2
  exact this.2
theorem print_s {r : Rq} (h : okP r) (st : St) : s17 [rqV r] st = some (.ret (.tup [.str (if okAll r = true then reqT r else []), .int .i64 (if okAll r = true then 0 else 1)]), st) := by
  rw [s17_eq]
  have main : ∃ st', f17 (rqV r) st = some (.ret (.tup [.str (if okAll r = true then reqT r else []), .int .i64 (if okAll r = true then 0 else 1)]), st') ∧ Ks st st' := by
    unfold f17
    have bx : ∀ K : V → St → Res, A.box (rqV r) st K = K (.ptr st.n 0) (st.new (.cells (rqC r))) := fun K => rfl
    rw [bx]
    have o1 := new_at st (.cells (rqC r))
    have k1 : Ks st (st.new (.cells (rqC r))) := (Ks.refl st).new _
    have n1 : st.n < (st.new (.cells (rqC r))).n := by simp
    generalize st.new (.cells (rqC r)) = s1 at o1 k1 n1 ⊢
    have ld : ∀ K : V → St → Res, A.load true 4 (.ptr st.n 0) s1 K = K (rqV r) s1 := fun K => by rw [load_obA, o1]; rfl
    rw [ld, show (rqV r).er1 = rqV r from rfl, check_s h.1, ret_ret, eql_int, if_pos rfl]
    cases hok : okAll r with
    | false =>
      simp only [Bool.false_eq_true, if_false]
      rw [show ((1 : Int) != 0) = true from rfl, cond_true]
      exact ⟨s1, rfl, k1⟩
    | true =>
      simp only [if_true]
      rw [show ((0 : Int) != 0) = false from rfl, cond_false]
      unfold g17b11
      have w3 : ∀ K : V → St → Res, A.load false 1 (.ptr st.n 3) s1 K = K (.lst (r.ch.map chV) 0) s1 := fun K => by rw [load_ob, o1]; rfl
      rw [faddr_ptr, Nat.zero_add, w3, lenL_lst, List.length_map]
      obtain ⟨b1, b2, b3⟩ := okAll_bd hok
      have hw := (ok_well hok).1
      have hv : ∀ v ∈ r.vars, v.length ≤ 16 := fun v hm => by
        rcases hw with ⟨_, _, _, g, _⟩ | ⟨_, g, _⟩
        · exact (isWord_some (g v hm)).2.1
        · rw [g] at hm; cases hm
      have hat : ∀ a ∈ r.atoms, wellAt a ∧ a.p.nd ≤ 10000 := fun a hm => by
        refine ⟨?_, h.2 a hm⟩
        rcases hw with ⟨_, _, _, _, _, g⟩ | ⟨_, _, g, _⟩
        · exact g a hm
        · rw [g] at hm; cases hm
      have hcs : ∀ c ∈ r.ch, okCh c = true := fun c hm => by
        rcases hw with ⟨_, g, _⟩ | ⟨_, _, _, _, g⟩
        · rw [g] at hm; cases hm
        · exact g c hm
      obtain ⟨st', r1, r2⟩ := print_chs (st0 := s1) n1 o1 hcs b3 hat b2 hv b1 big 0 s1 1 (by omega) (lt_big (by omega)) (Ks.refl s1) (.inl rfl)
      refine ⟨st', ?_, k1.trans r2⟩
      have er : (if r.kind = 1 then selQ ++ (joinL [32, 63] r.vars ++ (whrQ ++ (joinL dot3 (r.ch.map chT2 ++ r.atoms.map atT) ++ [32, 125]))) else joinL dot3 (r.ch.map chT2 ++ r.atoms.map atT)) = reqT r := by
        unfold reqT
        rcases hw with ⟨g1, g2, _⟩ | ⟨g1, _, g2, _⟩
        · rw [if_pos g1, if_pos g1, g2]; rfl
        · rw [if_neg (by rw [g1]; decide), if_neg (by rw [g1]; decide), g2]; simp
      rw [er] at r1
      exact r1
  obtain ⟨st', q1, q2⟩ := main
  exact fg_of q1 q2 rfl
end Go.Ab
