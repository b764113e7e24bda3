import Derived.Test.YtimidokohhiacaaAbP09n
import Derived.Test.YtimidokohhiacaaAbIn2
/- sinewlaw09: QueryNames. -/
namespace Go.Ab
open Go.Proofs Go.RowKit
set_option linter.unusedVariables false
set_option linter.unusedSimpArgs false
set_option maxRecDepth 100000
structure Atm where
  sv : Bool
  sn : List UInt8
  k : Int
  w : List UInt8
  kids : List V
  t : Nat
  ov : Bool
  on : List UInt8
def atC (a : Atm) : List V := [.bool a.sv, .str a.sn, .int .i64 a.k, .str a.w, .lst a.kids a.t, .bool a.ov, .str a.on]
def atsV (l : List Atm) : List V := l.map fun a => .agg (atC a)
def addN (out : List (List UInt8)) (v : Bool) (s : List UInt8) : List (List UInt8) := if (v && !(out.contains s)) = true then out ++ [s] else out
def addA (out : List (List UInt8)) (a : Atm) : List (List UInt8) := addN (addN out a.sv a.sn) a.ov a.on
def namesL (l : List Atm) : List (List UInt8) := l.foldl addA []
theorem addN_len (out : List (List UInt8)) (v : Bool) (s : List UInt8) : (addN out v s).length ≤ out.length + 1 := by
  unfold addN; split <;> simp
theorem addA_len (out : List (List UInt8)) (a : Atm) : (addA out a).length ≤ out.length + 2 := by
  unfold addA
  have h1 := addN_len out a.sv a.sn
  have h2 := addN_len (addN out a.sv a.sn) a.ov a.on
  omega
theorem index_str_loop (out : List (List UInt8)) (u : Nat) (s : List UInt8) (st : St) (hl : out.length ≤ 100000) : ∀ (n i : Nat), i ≤ out.length → out.length < n + i → (∀ x ∈ out.take i, x ≠ s) →
    ∃ r : Int, g78b1010 n (.lst (strsV out) u) (.str s) (.int .i64 (out.length : Nat)) (.int .i64 (i : Nat)) st = some (.ret (.int .i64 r), st) ∧ (decide (0 ≤ r) = out.contains s) := by
  intro n
  induction n with
  | zero => intro i hi hn; omega
  | succ n ih =>
    intro i hi hn hb
    unfold g78b1010
    by_cases hil : i < out.length
    · have e4 : ∀ K, A.bin .add (.int .i64 (i : Nat)) (.int .i64 1) K = K (.int .i64 ((i + 1 : Nat) : Int)) := fun K => bin_inc (by omega) K
      simp only [bin_lss, show ((i : Int) < (out.length : Int)) from by omega, decide_true, cond_true, iaddr_strs u hil, load_l1', eql_str, Bool.false_eq_true, if_false]
      by_cases hx : s = out[i]
      · simp only [show (s == out[i]) = true by rw [beq_iff_eq]; exact hx, cond_true, er1_int]
        refine ⟨_, rfl, ?_⟩
        rw [decide_eq_true (by omega)]
        exact (List.contains_iff_mem.2 (by rw [hx]; exact List.getElem_mem hil)).symm
      · simp only [show (s == out[i]) = false by rw [beq_eq_false_iff_ne]; exact hx, cond_false, e4]
        refine ih (i + 1) (by omega) (by omega) (fun x hxm => ?_)
        rw [List.take_add_one, List.getElem?_eq_getElem hil] at hxm
        rcases List.mem_append.1 hxm with g | g
        · exact hb x g
        · simp at g; rw [g]; exact fun e => hx e.symm
    · have : i = out.length := by omega
      subst this
      rw [List.take_length] at hb
      simp only [bin_lss, Int.lt_irrefl, decide_false, cond_false, er1_int]
      refine ⟨-1, rfl, ?_⟩
      rw [decide_eq_false (by omega)]
      cases hc : out.contains s with
      | false => rfl
      | true => exact absurd rfl (hb s (List.contains_iff_mem.1 hc))
theorem contains_s (out : List (List UInt8)) (u : Nat) (s : List UInt8) (st : St) (hl : out.length ≤ 100000) : s44 [.lst (strsV out) u, .str s] st = some (.ret (.bool (out.contains s)), st) := by
  rw [s44_eq]
  unfold f44
  have : ∃ r : Int, s78 [.lst (strsV out) u, .str s] st = some (.ret (.int .i64 r), st) ∧ (decide (0 ≤ r) = out.contains s) := by
    rw [s78_eq]
    unfold f78
    simp only [lenL_lst, strsV_len]
    exact index_str_loop out u s st hl big 0 (by omega) (lt_big (by omega)) (by simp)
  obtain ⟨r, h1, h2⟩ := this
  simp only [er1_lst, er1_str, h1, ret_ret, bin_geq, er1_bool, h2]
/-! Names -/
theorem bx7 (st : St) (K : V → St → Res) : A.box (.agg [(.bool false), (.str []), (.int .i64 0), (.str []), (.lst [] 1), (.bool false), (.str [])]) st K = K (.ptr st.n 0) (st.new (.cells (atC ⟨false, [], 0, [], [], 1, false, []⟩))) := rfl
theorem sv7 {st : St} {i : Nat} {b : Atm} (a : Atm) (h : st.ob i = some (.cells (atC b))) (K : St → Res) : A.store 7 (.ptr i 0) (.agg (atC a)) st K = K (st.put i (.cells (atC a))) := by
  rw [store_agg, h, obo_some, if_pos ⟨rfl, by simp [atC], rfl⟩]; rfl
theorem ld7 {st : St} {i : Nat} {a : Atm} (h : st.ob i = some (.cells (atC a))) : (∀ K : V → St → Res, A.load true 2 (.ptr i 0) st K = K (.agg [.bool a.sv, .str a.sn]) st) ∧ (∀ K : V → St → Res, A.load true 2 (.ptr i 5) st K = K (.agg [.bool a.ov, .str a.on]) st) ∧ (∀ K : V → St → Res, A.load false 1 (.ptr i 0) st K = K (.bool a.sv) st) ∧ (∀ K : V → St → Res, A.load false 1 (.ptr i 1) st K = K (.str a.sn) st) ∧ (∀ K : V → St → Res, A.load false 1 (.ptr i 5) st K = K (.bool a.ov) st) ∧ (∀ K : V → St → Res, A.load false 1 (.ptr i 6) st K = K (.str a.on) st) :=
  ⟨fun K => by rw [load_obA, h]; rfl, fun K => by rw [load_obA, h]; rfl, fun K => by simp [h, atC], fun K => by simp [h, atC], fun K => by simp [h, atC], fun K => by simp [h, atC]⟩
theorem iaddr_at {l : List Atm} {i : Nat} (t : Nat) (h : i < l.length) (K : V → Res) : A.iaddr 7 (.lst (atsV l) t) (.int .i64 (i : Nat)) K = K (.lptr (atC l[i])) :=
  iaddr_lst (v := .agg (atC l[i])) K (by simp [atsV, h]) rfl
theorem load_at (a : Atm) (st : St) (K : V → St → Res) : A.load true 7 (.lptr (atC a)) st K = K (.agg (atC a)) st := by rw [load_lptrA]; rfl
theorem app_name {st0 st : St} {out : List (List UInt8)} {u : Nat} (hk : Ks st0 st) (ho : Own st0 st 1 u) (hl : out.length ≤ 100000) (s : List UInt8) (K : V → St → Res) :
    ∃ st' u', (A.bslice 1 (.str []) 1 [(0, .str s)] fun a4 => A.app 1 (.lst (strsV out) u) (elemsOf 5 1 a4 st) st K) = K (.lst (strsV (out ++ [s])) u') st' ∧ Ks st0 st' ∧ Own st0 st' 1 u' ∧ st'.ob = st.ob ∧ st'.n = st.n := by
  have bs : ∀ K, A.bslice 1 (.str []) 1 [(0, .str s)] K = K (.lst (strsV [s]) 2) := fun K => rfl
  rw [bs]
  simp only [elemsOf_strs]
  rw [app_own _ ho (by simp; omega) (szok_strs _), ← strsV_app]
  obtain ⟨k2, o2⟩ := ho.app hk
  exact ⟨_, _, rfl, k2, o2, appSt_ob _ _ _, appSt_n _ _ _⟩
/-- One term of Names. -/
theorem term_step {st0 st : St} {x9 x10 x11 : V} {l : List V} (hk : Ks st0 st) {out : List (List UInt8)} {u : Nat} (ho : Own st0 st 1 u) (hl : out.length ≤ 99990) (L : V → V → V → V → St → Res) (n : Nat) {ts : List (Bool × List UInt8)} (j : Nat) (hj : j < ts.length) (hts : l = ts.map fun p => V.agg [.bool p.1, .str p.2]) (hj2 : ts.length ≤ 2) :
    ∃ st' u', g21b1101001100110 L (n + 1) (.lst (strsV out) u) x9 x10 x11 (.lst l 2) (.int .i64 (ts.length : Nat)) (.int .i64 (j : Nat)) st = g21b1101001100110 L n (.lst (strsV (addN out ts[j].1 ts[j].2)) u') x9 x10 x11 (.lst l 2) (.int .i64 (ts.length : Nat)) (.int .i64 ((j + 1 : Nat) : Int)) st' ∧ Ks st0 st' ∧ Own st0 st' 1 u' := by
  have e4 : ∀ K, A.bin .add (.int .i64 (j : Nat)) (.int .i64 1) K = K (.int .i64 ((j + 1 : Nat) : Int)) := fun K => bin_inc (by omega) K
  have ia : ∀ K, A.iaddr 2 (.lst l 2) (.int .i64 (j : Nat)) K = K (.lptr [.bool ts[j].1, .str ts[j].2]) := fun K => iaddr_lst (v := .agg [.bool ts[j].1, .str ts[j].2]) K (by rw [hts]; simp [hj]) rfl
  have la : ∀ (s : St) K, A.load true 2 (.lptr [.bool ts[j].1, .str ts[j].2]) s K = K (.agg [.bool ts[j].1, .str ts[j].2]) s := fun s K => by rw [load_lptrA]; rfl
  have bx : ∀ K : V → St → Res, A.box (.agg [(.bool false), (.str [])]) st K = K (.ptr st.n 0) (st.new (.cells [.bool false, .str []])) := fun K => rfl
  have so : ∀ K, A.store 2 (.ptr st.n 0) (.agg [.bool ts[j].1, .str ts[j].2]) (st.new (.cells [.bool false, .str []])) K = K ((st.new (.cells [.bool false, .str []])).put st.n (.cells [.bool ts[j].1, .str ts[j].2])) := fun K => by
    rw [store_agg, new_at, obo_some, if_pos ⟨rfl, by simp, rfl⟩]; rfl
  rw [g21b1101001100110]
  simp only [bin_lss, show ((j : Int) < (ts.length : Int)) from by omega, decide_true, cond_true, ia, la, bx, so]
  have k2 : Ks st0 ((st.new (.cells [.bool false, .str []])).put st.n (.cells [.bool ts[j].1, .str ts[j].2])) := (hk.new _).put hk.n _
  have o2 := put_at (st.new (.cells [.bool false, .str []])) st.n (.cells [.bool ts[j].1, .str ts[j].2])
  have ow2 : Own st0 ((st.new (.cells [.bool false, .str []])).put st.n (.cells [.bool ts[j].1, .str ts[j].2])) 1 u := by
    rcases ho with h | h | ⟨k, h1, h2, h3, h4⟩
    · exact .inl h
    · exact .inr (.inl h)
    · exact .inr (.inr ⟨k, h1, h2, by simpa using h3, by simpa using h4⟩)
  have hcell : st.n = st.n := rfl
  generalize (st.new (.cells [.bool false, .str []])).put st.n (.cells [.bool ts[j].1, .str ts[j].2]) = st2 at k2 o2 ow2 ⊢
  have l0 : ∀ K, A.load false 1 (.ptr st.n 0) st2 K = K (.bool ts[j].1) st2 := fun K => by simp [o2]
  have l1 : ∀ K, A.load false 1 (.ptr st.n 1) st2 K = K (.str ts[j].2) st2 := fun K => by simp [o2]
  simp only [faddr_ptr, Nat.zero_add, l0]
  have skip : addN out ts[j].1 ts[j].2 = out → ∃ st' u', g21b11010011001100110011 L (g21b1101001100110 L n) (.lst (strsV out) u) (.ptr st.n 0) x9 x10 x11 (.lst l 2) (.int .i64 (ts.length : Nat)) (.int .i64 (j : Nat)) (.bool false) st2 = g21b1101001100110 L n (.lst (strsV (addN out ts[j].1 ts[j].2)) u') x9 x10 x11 (.lst l 2) (.int .i64 (ts.length : Nat)) (.int .i64 ((j + 1 : Nat) : Int)) st' ∧ Ks st0 st' ∧ Own st0 st' 1 u' := fun e => by
    unfold g21b11010011001100110011
    simp only [cond_false, e4]
    rw [e]
    exact ⟨st2, u, rfl, k2, ow2⟩
  cases hv : ts[j].1 with
  | false =>
    simp only [guard_ft]
    have h := skip (by unfold addN; rw [hv]; rfl)
    rw [hv] at h
    exact h
  | true =>
    simp only [guard_tt, faddr_ptr, Nat.zero_add, l1, er1_lst, er1_str, contains_s out u ts[j].2 st2 (by omega), ret_ret, un_not]
    cases hc : out.contains ts[j].2 with
    | true =>
      simp only [Bool.not_true]
      have h := skip (by unfold addN; rw [hv, hc]; rfl)
      rw [hv] at h
      exact h
    | false =>
      simp only [Bool.not_false]
      unfold g21b11010011001100110011
      obtain ⟨st3, u3, q1, q2, q3, q4, q5⟩ := app_name k2 ow2 (out := out) (by omega) ts[j].2 (fun a5 z6 => A.bin .add (.int .i64 (j : Nat)) (.int .i64 1) fun a7 => g21b1101001100110 L n a5 x9 x10 x11 (.lst l 2) (.int .i64 (ts.length : Nat)) a7 z6)
      simp only [cond_true, faddr_ptr, Nat.zero_add, l1]
      rw [q1, e4]
      have : addN out true ts[j].2 = out ++ [ts[j].2] := by unfold addN; rw [hc]; rfl
      rw [this]
      exact ⟨st3, u3, rfl, q2, q3⟩
theorem names_loop {st0 : St} {l : List Atm} {t : Nat} (hl : l.length ≤ 10000) : ∀ (n i u : Nat) (st : St) (out : List (List UInt8)), i ≤ l.length → l.length < n + i → Ks st0 st → Own st0 st 1 u → out.length ≤ 2 * i →
    ∃ st' u', g21b11010 n (.lst (strsV out) u) (.lst (atsV l) t) (.int .i64 (l.length : Nat)) (.int .i64 (i : Nat)) st = some (.ret (.lst (strsV ((l.drop i).foldl addA out)) u'), st') ∧ Ks st0 st' := by
  intro n
  induction n with
  | zero => intro i u st out hi hn; omega
  | succ n ih =>
    intro i u st out hi hn hk ho hlo
    rw [g21b11010]
    by_cases hil : i < l.length
    · have e4 : ∀ K, A.bin .add (.int .i64 (i : Nat)) (.int .i64 1) K = K (.int .i64 ((i + 1 : Nat) : Int)) := fun K => bin_inc (by omega) K
      simp only [bin_lss, show ((i : Int) < (l.length : Int)) from by omega, decide_true, cond_true, iaddr_at t hil, load_at, bx7, sv7 _ (new_at _ _)]
      have k2 : Ks st0 ((st.new (.cells (atC ⟨false, [], 0, [], [], 1, false, []⟩))).put st.n (.cells (atC l[i]))) := (hk.new _).put hk.n _
      have o2 := put_at (st.new (.cells (atC ⟨false, [], 0, [], [], 1, false, []⟩))) st.n (.cells (atC l[i]))
      have ow2 : Own st0 ((st.new (.cells (atC ⟨false, [], 0, [], [], 1, false, []⟩))).put st.n (.cells (atC l[i]))) 1 u := by
        rcases ho with h | h | ⟨k, h1, h2, h3, h4⟩
        · exact .inl h
        · exact .inr (.inl h)
        · exact .inr (.inr ⟨k, h1, h2, by simpa using h3, by simpa using h4⟩)
      generalize (st.new (.cells (atC ⟨false, [], 0, [], [], 1, false, []⟩))).put st.n (.cells (atC l[i])) = st2 at k2 o2 ow2 ⊢
      obtain ⟨w1, w2, _⟩ := ld7 o2
      have bs : ∀ K, A.bslice 2 (.agg [(.bool false), (.str [])]) 2 [(0, .agg [.bool l[i].sv, .str l[i].sn]), (1, .agg [.bool l[i].ov, .str l[i].on])] K = K (.lst [.agg [.bool l[i].sv, .str l[i].sn], .agg [.bool l[i].ov, .str l[i].on]] 2) := fun K => rfl
      simp only [faddr_ptr, Nat.zero_add, w1, w2, bs, lenL_lst]
      unfold g21b110100110011
      obtain ⟨m, hm, hm2⟩ := big_succ
      obtain ⟨m', rfl⟩ : ∃ m', m = m' + 2 := ⟨m - 2, by omega⟩
      rw [hm]
      have hh : (2 : Nat) = ([(l[i].sv, l[i].sn), (l[i].ov, l[i].on)] : List (Bool × List UInt8)).length := rfl
      obtain ⟨st3, u3, q1, q2, q3⟩ := term_step (x9 := .lst (atsV l) t) (x10 := .int .i64 (l.length : Nat)) (x11 := .int .i64 (i : Nat)) (l := [.agg [.bool l[i].sv, .str l[i].sn], .agg [.bool l[i].ov, .str l[i].on]]) k2 ow2 (out := out) (by omega) (g21b11010 n) (m' + 2) (ts := [(l[i].sv, l[i].sn), (l[i].ov, l[i].on)]) 0 (by simp) rfl (by simp)
      have hl1 := addN_len out l[i].sv l[i].sn
      obtain ⟨st4, u4, r1, r2, r3⟩ := term_step (x9 := .lst (atsV l) t) (x10 := .int .i64 (l.length : Nat)) (x11 := .int .i64 (i : Nat)) (l := [.agg [.bool l[i].sv, .str l[i].sn], .agg [.bool l[i].ov, .str l[i].on]]) q2 q3 (out := addN out l[i].sv l[i].sn) (by omega) (g21b11010 n) (m' + 1) (ts := [(l[i].sv, l[i].sn), (l[i].ov, l[i].on)]) 1 (by simp) rfl (by simp)
      simp only [List.length_cons, List.length_nil, List.getElem_cons_zero, List.getElem_cons_succ] at q1 r1 ⊢
      rw [show ((0 : Nat) : Int) = 0 from rfl] at q1
      rw [q1, r1]
      rw [g21b1101001100110]
      simp only [bin_lss, show ¬ (((1 + 1 : Nat) : Int) < ((0 + 1 + 1 : Nat) : Int)) from by omega, decide_false, cond_false, e4]
      obtain ⟨st', u', s1, s2⟩ := ih (i + 1) u4 st4 (addA out l[i]) (by omega) (by omega) r2 r3 (by have := addA_len out l[i]; omega)
      rw [List.drop_eq_getElem_cons hil, List.foldl_cons]
      exact ⟨st', u', s1, s2⟩
    · have : i = l.length := by omega
      subst this
      simp only [bin_lss, Int.lt_irrefl, decide_false, cond_false, er1_lst, List.drop_length]
      exact ⟨st, u, rfl, hk⟩
/-- A query. -/
def qyC (vs : List (List UInt8)) (t : Nat) (l : List Atm) (u : Nat) : List V := [.lst (strsV vs) t, .lst (atsV l) u]
theorem names_s (vs : List (List UInt8)) (l : List Atm) (hl : l.length ≤ 10000) (st : St) : ∃ st' u', s21 [.agg (qyC vs 0 l 0)] st = some (.ret (.lst (strsV (namesL l)) u'), st') ∧ Ks st st' := by
  rw [s21_eq]
  unfold f21
  have bx : ∀ K : V → St → Res, A.box (.agg (qyC vs 0 l 0)) st K = K (.ptr st.n 0) (st.new (.cells (qyC vs 0 l 0))) := fun K => rfl
  have o1 := new_at st (.cells (qyC vs 0 l 0))
  have w1 : ∀ K, A.load false 1 (.ptr st.n 1) (st.new (.cells (qyC vs 0 l 0))) K = K (.lst (atsV l) 0) (st.new (.cells (qyC vs 0 l 0))) := fun K => by simp [o1, qyC]
  have hal : (atsV l).length = l.length := by simp [atsV]
  simp only [bx, faddr_ptr, Nat.zero_add, w1, lenL_lst, hal]
  obtain ⟨st', u', q1, q2⟩ := names_loop (t := 0) (st0 := st) hl big 0 1 _ [] (by omega) (lt_big (by omega)) ((Ks.refl st).new _) (.inl rfl) (by simp)
  rw [show ((0 : Nat) : Int) = 0 from rfl] at q1
  exact ⟨st', u', q1, q2⟩
theorem namesL_len : ∀ (l : List Atm) (out : List (List UInt8)), (l.foldl addA out).length ≤ out.length + 2 * l.length
  | [], out => by simp
  | a :: l, out => by
    have := namesL_len l (addA out a)
    have h2 := addA_len out a
    rw [List.foldl_cons, List.length_cons]; omega
end Go.Ab
