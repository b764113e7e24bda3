import Derived.Test.YtjdgaphjjhhjeaaAbForget
/- Words for the laws of printed functions: lists of numbers and texts, what is kept, loops' fuel. -/
namespace Go.Ab
open Go.RowKit
set_option linter.unusedVariables false
set_option linter.unusedSimpArgs false

theorem lt_big {n : Nat} (h : n < 1180591620717411303424) : n < big := Nat.lt_of_lt_of_le h big_le
/-! ### lists of one-celled values -/
def strsV (ss : List (List UInt8)) : List V := ss.map .str
def intssV (a : List (List Int)) : List V := a.map fun l => .lst (intsV l) 0
@[simp] theorem strsV_len (xs : List (List UInt8)) : (strsV xs).length = xs.length := by simp [strsV]
@[simp] theorem intssV_len (xs : List (List Int)) : (intssV xs).length = xs.length := by simp [intssV]
@[simp] theorem strsV_at (xs : List (List UInt8)) (i : Nat) (h : i < (strsV xs).length) : (strsV xs)[i] = .str (xs[i]'(by simpa using h)) := by simp [strsV]
@[simp] theorem intssV_at (xs : List (List Int)) (i : Nat) (h : i < (intssV xs).length) : (intssV xs)[i] = .lst (intsV (xs[i]'(by simpa using h))) 0 := by simp [intssV]
theorem szok_map {α : Type} {f : α → V} (hf : ∀ x, (f x).cells.length = 1) (l : List α) : szok 1 (l.map f) = true := szok_of (by intro v hv; obtain ⟨x, _, rfl⟩ := List.mem_map.1 hv; exact hf x)
@[simp] theorem szok_ints (xs : List Int) : szok 1 (intsV xs) = true := szok_map (fun _ => rfl) xs
@[simp] theorem szok_strs (xs : List (List UInt8)) : szok 1 (strsV xs) = true := szok_map (fun _ => rfl) xs
@[simp] theorem szok_intss (xs : List (List Int)) : szok 1 (intssV xs) = true := szok_map (fun _ => rfl) xs
@[simp] theorem szok_one (v : V) (h : v.one = true) : szok 1 [v] = true := by simp [szok, show v.cells = [v] by cases v <;> first | rfl | cases h]
@[simp] theorem szok_nil (n : Nat) : szok n [] = true := rfl
theorem intsV_app (xs ys : List Int) : intsV (xs ++ ys) = intsV xs ++ intsV ys := by simp [intsV]
theorem strsV_app (xs ys : List (List UInt8)) : strsV (xs ++ ys) = strsV xs ++ strsV ys := by simp [strsV]
@[simp] theorem intsV_nil : intsV [] = [] := rfl
@[simp] theorem strsV_nil : strsV [] = [] := rfl
@[simp] theorem intssV_nil : intssV [] = [] := rfl
theorem iaddr_ints {xs : List Int} {i : Nat} (t : Nat) (h : i < xs.length) (K : V → Res) : A.iaddr 1 (.lst (intsV xs) t) (.int .i64 (i : Nat)) K = K (.lptr [.int .i64 xs[i]]) := iaddr_lst (v := .int .i64 xs[i]) K (by simp [intsV, h]) rfl
theorem iaddr_strs {xs : List (List UInt8)} {i : Nat} (t : Nat) (h : i < xs.length) (K : V → Res) : A.iaddr 1 (.lst (strsV xs) t) (.int .i64 (i : Nat)) K = K (.lptr [.str xs[i]]) := iaddr_lst (v := .str xs[i]) K (by simp [strsV, h]) rfl
@[simp] theorem elemsOf_ints (xs : List Int) (t : Nat) (st : St) : elemsOf 5 1 (.lst (intsV xs) t) st = some (intsV xs) := by simp [elemsOf]
@[simp] theorem elemsOf_strs (xs : List (List UInt8)) (t : Nat) (st : St) : elemsOf 5 1 (.lst (strsV xs) t) st = some (strsV xs) := by simp [elemsOf]
@[simp] theorem elemsOf_single (v : V) (t : Nat) (st : St) (h : v.one = true) : elemsOf 5 1 (.lst [v] t) st = some [v] := by simp [elemsOf, h]
theorem idxS_at {s : List UInt8} {i : Nat} (h : i < s.length) (K : V → Res) : A.idxS (.str s) (.int .i64 (i : Nat)) K = K (.int .u8 s[i].toNat) := by simp [A.idxS, h]
@[simp] theorem bslice_0 (sz : Nat) (z : V) (K : V → Res) (h : z.cells.length = sz ∧ 0 < sz ∧ z.cells.all V.one = true) : A.bslice sz z 0 [] K = K (.lst [] 2) := by simp [A.bslice, setP, h]
@[simp] theorem bslice_int0 (K : V → Res) : A.bslice 1 (.int .i64 0) 0 [] K = K (.lst [] 2) := by simp [A.bslice, setP]
@[simp] theorem bslice_int1 (x : Int) (K : V → Res) : A.bslice 1 (.int .i64 0) 1 [(0, .int .i64 x)] K = K (.lst (intsV [x]) 2) := by simp [A.bslice, setP, intsV, V.er]
@[simp] theorem bslice_int2 (x y : Int) (K : V → Res) : A.bslice 1 (.int .i64 0) 2 [(0, .int .i64 x), (1, .int .i64 y)] K = K (.lst (intsV [x, y]) 2) := by simp [A.bslice, setP, intsV, V.er, List.replicate]
@[simp] theorem bslice_str2 (x y : List UInt8) (K : V → Res) : A.bslice 1 (.str []) 2 [(0, .str x), (1, .str y)] K = K (.lst (strsV [x, y]) 2) := by simp [A.bslice, setP, strsV, V.er, List.replicate]
@[simp] theorem bslice_lst1 (l : List V) (t : Nat) (K : V → Res) : A.bslice 1 (.lst [] 1) 1 [(0, .lst l t)] K = K (.lst [.lst l 0] 2) := by simp [A.bslice, setP, V.er]
@[simp] theorem pu_lst (l : List V) (t : Nat) : (V.lst l t).pu = (Nat.ble t 2 && V.puL l) := rfl
@[simp] theorem pu_int (k : IntKind) (n : Int) : (V.int k n).pu = true := rfl
@[simp] theorem pu_bool (b : Bool) : (V.bool b).pu = true := rfl
@[simp] theorem pu_str (s : List UInt8) : (V.str s).pu = true := rfl
@[simp] theorem pu_tup (l : List V) : (V.tup l).pu = V.puL l := rfl
@[simp] theorem pu_agg (l : List V) : (V.agg l).pu = V.puL l := rfl
@[simp] theorem puL_nil : V.puL [] = true := rfl
@[simp] theorem puL_cons (v : V) (l : List V) : V.puL (v :: l) = (v.pu && V.puL l) := rfl
@[simp] theorem puL_ints (xs : List Int) : V.puL (intsV xs) = true := puL_of (by intro v hv; obtain ⟨x, _, rfl⟩ := List.mem_map.1 hv; rfl)
@[simp] theorem puL_strs (xs : List (List UInt8)) : V.puL (strsV xs) = true := puL_of (by intro v hv; obtain ⟨x, _, rfl⟩ := List.mem_map.1 hv; rfl)
@[simp] theorem puL_intss (xs : List (List Int)) : V.puL (intssV xs) = true := puL_of (by intro v hv; obtain ⟨x, _, rfl⟩ := List.mem_map.1 hv; simp)
@[simp] theorem era_int (k : IntKind) (n : Int) : (V.int k n).era = .int k n := rfl
@[simp] theorem era_bool (b : Bool) : (V.bool b).era = .bool b := rfl
@[simp] theorem era_str (s : List UInt8) : (V.str s).era = .str s := rfl
@[simp] theorem era_lst (l : List V) (t : Nat) : (V.lst l t).era = .lst l 0 := rfl
@[simp] theorem era_tup (l : List V) : (V.tup l).era = .tup (l.map V.er) := rfl
@[simp] theorem er_int (k : IntKind) (n : Int) : (V.int k n).er = .int k n := rfl
@[simp] theorem er_bool (b : Bool) : (V.bool b).er = .bool b := rfl
@[simp] theorem er_str (s : List UInt8) : (V.str s).er = .str s := rfl
@[simp] theorem er_lst (l : List V) (t : Nat) : (V.lst l t).er = .lst l 0 := rfl

theorem bin_inc {i : Nat} (h : i < 9223372036854775807) (K : V → Res) : A.bin .add (.int .i64 (i : Nat)) (.int .i64 1) K = K (.int .i64 ((i + 1 : Nat) : Int)) := bin_addN i 1 K (by omega)
theorem bin_quo {x y : Int} (K : V → Res) (hx : 0 ≤ x) (hx2 : x ≤ 9223372036854775807) (hy : 0 < y) : A.bin .quo (.int .i64 x) (.int .i64 y) K = K (.int .i64 (x / y)) := by
  have h1 : x / y ≤ x := Int.ediv_le_self _ hx
  have h2 : 0 ≤ x / y := Int.ediv_nonneg hx (by omega)
  simp only [A.bin, if_true, show ¬ y = 0 from by omega, if_false]
  rw [Int.tdiv_eq_ediv_of_nonneg hx, wrap_i64 (by omega) (by omega)]
/-- A value that stands for numbers: a list by value, or memory. -/
structure IntsAt (st : St) (v : V) (xs : List Int) : Prop where
  er : v.er1 = v
  len : ∀ K : V → Res, A.lenL v K = K (.int .i64 (xs.length : Nat))
  at_ : ∀ (i : Nat) (h : i < xs.length) (K : V → St → Res), (A.iaddr 1 v (.int .i64 (i : Nat)) fun a => A.load false 1 a st K) = K (.int .i64 xs[i]) st
/-! ### what is kept -/
theorem Ks.new {st0 st : St} (h : Ks st0 st) (o : Ob) : Ks st0 (st.new o) :=
  ⟨fun i hi => by rw [new_ne _ _ (by have := h.n; omega)]; exact h.ob i hi, by have := h.n; simp; omega, h.nt, h.tk⟩
theorem Ks.put {st0 st : St} (h : Ks st0 st) {i : Nat} (hi : st0.n ≤ i) (o : Ob) : Ks st0 (st.put i o) :=
  ⟨fun j hj => by rw [put_ne _ _ (by omega)]; exact h.ob j hj, h.n, h.nt, h.tk⟩
theorem Ks.del {st0 st : St} (h : Ks st0 st) {i : Nat} (hi : st0.n ≤ i) : Ks st0 (st.del i) :=
  ⟨fun j hj => by rw [del_ob, if_neg (by omega)]; exact h.ob j hj, h.n, h.nt, h.tk⟩
/-- The right to append, of a list that this call made. -/
def Own (st0 st : St) (sz t : Nat) : Prop := t = 1 ∨ t = 2 ∨ ∃ k, t = k + 3 ∧ st0.nt ≤ k ∧ k < st.nt ∧ st.tk k = some sz
theorem Own.tok {st0 st : St} {sz t : Nat} (h : Own st0 st sz t) : Tok st sz t := by
  rcases h with h | h | ⟨k, h1, _, _, h2⟩
  · exact .inl h
  · exact .inr (.inl h)
  · exact .inr (.inr ⟨k, h1, h2⟩)
theorem Own.app {st0 st : St} {sz t : Nat} (h : Own st0 st sz t) (hk : Ks st0 st) : Ks st0 (appSt st t sz) ∧ Own st0 (appSt st t sz) sz (st.nt + 3) := by
  have := hk.nt
  refine ⟨⟨fun i hi => by rw [appSt_ob]; exact hk.ob i hi, by rw [appSt_n]; exact hk.n, by rw [appSt_nt]; omega, fun j hj => ?_⟩, .inr (.inr ⟨st.nt, rfl, this, by rw [appSt_nt]; omega, appSt_new _ _ _⟩)⟩
  rw [appSt_tk _ _ _ _ (by omega) (by rcases h with h | h | ⟨k, h1, h2, _, _⟩ <;> omega)]
  exact hk.tk j hj
theorem Own.mono {st0 st st' : St} {sz t : Nat} (h : Own st0 st sz t) (k : Ks st st') : Own st0 st' sz t := by
  rcases h with h | h | ⟨j, h1, h2, h3, h4⟩
  · exact .inl h
  · exact .inr (.inl h)
  · exact .inr (.inr ⟨j, h1, h2, by have := k.nt; omega, by rw [k.tk j h3]; exact h4⟩)
theorem Own.nil (st0 st : St) (sz : Nat) : Own st0 st sz 1 := .inl rfl
theorem Own.full (st0 st : St) (sz : Nat) : Own st0 st sz 2 := .inr (.inl rfl)
theorem app_own {st0 st : St} {sz t : Nat} {l new : List V} (K : V → St → Res) (h : Own st0 st sz t) (hl : l.length + new.length ≤ 1073741824) (hs : szok sz l = true) : A.app sz (.lst l t) (some new) st K = K (.lst (l ++ new) (st.nt + 3)) (appSt st t sz) := app_tok K h.tok hl hs
end Go.Ab
