import Derived.Test.YtjdgaphjjhhjeaaAbSub
import Derived.IntWalk
/- What the engine's words say of values whose shape is known. -/
namespace Go.Ab
open Go.RowKit
set_option linter.unusedVariables false

@[simp] theorem er1_int (k : IntKind) (n : Int) : (V.int k n).er1 = .int k n := rfl
@[simp] theorem er1_bool (b : Bool) : (V.bool b).er1 = .bool b := rfl
@[simp] theorem er1_str (s : List UInt8) : (V.str s).er1 = .str s := rfl
@[simp] theorem er1_ptr0 : (V.ptr0).er1 = .ptr0 := rfl
@[simp] theorem er1_ptr (i o : Nat) : (V.ptr i o).er1 = .ptr i o := rfl
@[simp] theorem er1_lptr (l : List V) : (V.lptr l).er1 = .lptr l := rfl
@[simp] theorem er1_sl (a b c d : Nat) : (V.sl a b c d).er1 = .sl a b c d := rfl
@[simp] theorem er1_lst (l : List V) (t : Nat) : (V.lst l t).er1 = .lst l t := rfl
@[simp] theorem er1_map0 : (V.map0).er1 = .map0 := rfl
@[simp] theorem er1_map (i : Nat) : (V.map i).er1 = .map i := rfl
@[simp] theorem er1_fn (f : Nat) (a b : List V) : (V.fn f a b).er1 = .fn f a b := rfl
@[simp] theorem er1_fn0 : (V.fn0).er1 = .fn0 := rfl
@[simp] theorem er1_iface (t : Nat) (v : V) : (V.iface t v).er1 = .iface t v := rfl
@[simp] theorem er1_if0 : (V.if0).er1 = .if0 := rfl
@[simp] theorem er1_tup (l : List V) : (V.tup l).er1 = .tup l := rfl

@[simp] theorem cells_int (k : IntKind) (n : Int) : (V.int k n).cells = [.int k n] := by simp only [V.cells]
@[simp] theorem cells_bool (b : Bool) : (V.bool b).cells = [.bool b] := by simp only [V.cells]
@[simp] theorem cells_str (s : List UInt8) : (V.str s).cells = [.str s] := by simp only [V.cells]
@[simp] theorem cells_ptr0 : (V.ptr0).cells = [.ptr0] := by simp only [V.cells]
@[simp] theorem cells_ptr (i o : Nat) : (V.ptr i o).cells = [.ptr i o] := by simp only [V.cells]
@[simp] theorem cells_sl (a b c d : Nat) : (V.sl a b c d).cells = [.sl a b c d] := by simp only [V.cells]
@[simp] theorem cells_lst (l : List V) (t : Nat) : (V.lst l t).cells = [.lst l t] := by simp only [V.cells]
@[simp] theorem cells_map0 : (V.map0).cells = [.map0] := by simp only [V.cells]
@[simp] theorem cells_map (i : Nat) : (V.map i).cells = [.map i] := by simp only [V.cells]
@[simp] theorem cells_fn (f : Nat) (a b : List V) : (V.fn f a b).cells = [.fn f a b] := by simp only [V.cells]
@[simp] theorem cells_fn0 : (V.fn0).cells = [.fn0] := by simp only [V.cells]
@[simp] theorem cells_agg (l : List V) : (V.agg l).cells = l := by simp only [V.cells]
@[simp] theorem one_int (k : IntKind) (n : Int) : (V.int k n).one = true := by simp only [V.one]
@[simp] theorem one_bool (b : Bool) : (V.bool b).one = true := by simp only [V.one]
@[simp] theorem one_str (s : List UInt8) : (V.str s).one = true := by simp only [V.one]
@[simp] theorem one_ptr0 : (V.ptr0).one = true := by simp only [V.one]
@[simp] theorem one_ptr (i o : Nat) : (V.ptr i o).one = true := by simp only [V.one]
@[simp] theorem one_sl (a b c d : Nat) : (V.sl a b c d).one = true := by simp only [V.one]
@[simp] theorem one_lst (l : List V) (t : Nat) : (V.lst l t).one = true := by simp only [V.one]
@[simp] theorem one_map0 : (V.map0).one = true := by simp only [V.one]
@[simp] theorem one_map (i : Nat) : (V.map i).one = true := by simp only [V.one]
@[simp] theorem one_fn (f : Nat) (a b : List V) : (V.fn f a b).one = true := by simp only [V.one]
@[simp] theorem one_buf (s : List UInt8) (t : Nat) : (V.buf s t).one = true := by simp only [V.one]
@[simp] theorem one_bptr (s : List UInt8) (t : Nat) : (V.bptr s t).one = true := by simp only [V.one]
@[simp] theorem one_bld (k : Nat) : (V.bld k).one = false := by simp only [V.one]
/-- All are of one cell. -/
def ones (cs : List V) : Bool := cs.all V.one
@[simp] theorem ones_nil : ones [] = true := rfl
@[simp] theorem ones_cons (v : V) (cs : List V) : ones (v :: cs) = (v.one && ones cs) := rfl
@[simp] theorem one_fn0 : (V.fn0).one = true := by simp only [V.one]

@[simp] theorem ret_ret (v : V) (st : St) (K : V → St → Res) : A.ret (some (.ret v, st)) K = K v st := rfl
@[simp] theorem noP_ret (v : V) (st : St) (K : V → St → Res) : A.noP (some (.ret v, st)) K = K v st := rfl
@[simp] theorem kid_eq (v : V) (st : St) : kid v st = some (.ret v, st) := rfl
@[simp] theorem chk_same (v : V) (k : Res) : A.chk (some v) v k = k := by unfold A.chk; exact if_pos (V.eqB_refl v)
@[simp] theorem cond_true (x y : Res) : A.cond (.bool true) x y = x := rfl
@[simp] theorem cond_false (x y : Res) : A.cond (.bool false) x y = y := rfl
@[simp] theorem guard_tt (x y : Res) : A.guard (.bool true) true x y = x := rfl
@[simp] theorem guard_tf (x y : Res) : A.guard (.bool true) false x y = y := rfl
@[simp] theorem guard_ft (x y : Res) : A.guard (.bool false) true x y = y := rfl
@[simp] theorem guard_ff (x y : Res) : A.guard (.bool false) false x y = x := rfl
@[simp] theorem guardT_b (b w : Bool) (x y z : Res) : A.guardT (.bool b) w x y z = A.guard (.bool b) w x y := rfl
@[simp] theorem guardT_t (l : List V) (w : Bool) (x y z : Res) : A.guardT (.tup l) w x y z = z := rfl
@[simp] theorem pick_true (a b : V) (K : V → Res) : A.pick (.bool true) a b K = K a := rfl
@[simp] theorem pick_false (a b : V) (K : V → Res) : A.pick (.bool false) a b K = K b := rfl
@[simp] theorem nilc_ptr (i o : Nat) (K : V → Res) : A.nilc (.ptr i o) K = K (.ptr i o) := rfl
@[simp] theorem nilc_lptr (l : List V) (K : V → Res) : A.nilc (.lptr l) K = K (.lptr l) := rfl
@[simp] theorem faddr_ptr (n i o : Nat) (K : V → Res) : A.faddr n (.ptr i o) K = K (.ptr i (o + n)) := rfl
theorem load_lagg {n : Nat} {st : St} {cs : List V} (K : V → St → Res) (h : cs.length = n) : A.load true n (.lptr cs) st K = K (.agg cs) st := by
  subst h; simp [A.load, Apart]
@[simp] theorem lenL_lst (l : List V) (t : Nat) (K : V → Res) : A.lenL (.lst l t) K = K (.int .i64 l.length) := rfl
@[simp] theorem lenL_sl (a b c d : Nat) (K : V → Res) : A.lenL (.sl a b c d) K = K (.int .i64 c) := rfl
@[simp] theorem lenS_str (s : List UInt8) (K : V → Res) : A.lenS (.str s) K = K (.int .i64 s.length) := rfl
@[simp] theorem eql_int (t : Nat) (k : IntKind) (neg : Bool) (x y : Int) (K : V → Res) : A.eql t neg (.int k x) (.int k y) K = K (.bool (if neg then x != y else x == y)) := by simp [A.eql]
@[simp] theorem eql_str (t : Nat) (neg : Bool) (x y : List UInt8) (K : V → Res) : A.eql t neg (.str x) (.str y) K = K (.bool (if neg then x != y else x == y)) := rfl
@[simp] theorem eql_bool (neg : Bool) (x y : Bool) (K : V → Res) : A.eql 1 neg (.bool x) (.bool y) K = K (.bool (if neg then x != y else x == y)) := rfl
@[simp] theorem eql_ptr (neg : Bool) (i o : Nat) (K : V → Res) : A.eql 4 neg (.ptr i o) .ptr0 K = K (.bool neg) := rfl
@[simp] theorem eql_ptr0 (neg : Bool) (K : V → Res) : A.eql 4 neg .ptr0 .ptr0 K = K (.bool !neg) := rfl
@[simp] theorem un_not (b : Bool) (K : V → Res) : A.un .not (.bool b) K = K (.bool !b) := rfl
@[simp] theorem ext_0 (a : V) (l : List V) (K : V → Res) : A.ext (.tup (a :: l)) 0 K = K a := rfl
@[simp] theorem ext_1 (a b : V) (l : List V) (K : V → Res) : A.ext (.tup (a :: b :: l)) 1 K = K b := rfl
@[simp] theorem ext_2 (a b c : V) (l : List V) (K : V → Res) : A.ext (.tup (a :: b :: c :: l)) 2 K = K c := rfl

theorem wrap_i64 {n : Int} (h : -9223372036854775808 ≤ n) (h2 : n ≤ 9223372036854775807) : IntKind.i64.wrap n = n := by
  exact IntWalk.i64_in n ⟨h, h2⟩
theorem bin_add {x y : Int} (K : V → Res) (h : -9223372036854775808 ≤ x + y) (h2 : x + y ≤ 9223372036854775807) : A.bin .add (.int .i64 x) (.int .i64 y) K = K (.int .i64 (x + y)) := by simp [A.bin, wrap_i64 h h2]
theorem bin_sub {x y : Int} (K : V → Res) (h : -9223372036854775808 ≤ x - y) (h2 : x - y ≤ 9223372036854775807) : A.bin .sub (.int .i64 x) (.int .i64 y) K = K (.int .i64 (x - y)) := by simp [A.bin, wrap_i64 h h2]
theorem bin_mul {x y : Int} (K : V → Res) (h : -9223372036854775808 ≤ x * y) (h2 : x * y ≤ 9223372036854775807) : A.bin .mul (.int .i64 x) (.int .i64 y) K = K (.int .i64 (x * y)) := by simp [A.bin, wrap_i64 h h2]
theorem bin_rem {k : IntKind} {x y : Int} (K : V → Res) (h : y ≠ 0) : A.bin .rem (.int k x) (.int k y) K = K (.int k (x.tmod y)) := by simp [A.bin, h]
@[simp] theorem bin_lss (k : IntKind) (x y : Int) (K : V → Res) : A.bin .lss (.int k x) (.int k y) K = K (.bool (decide (x < y))) := by simp [A.bin]
@[simp] theorem bin_leq (k : IntKind) (x y : Int) (K : V → Res) : A.bin .leq (.int k x) (.int k y) K = K (.bool (decide (x ≤ y))) := by simp [A.bin]
@[simp] theorem bin_gtr (k : IntKind) (x y : Int) (K : V → Res) : A.bin .gtr (.int k x) (.int k y) K = K (.bool (decide (y < x))) := by simp [A.bin]
@[simp] theorem bin_geq (k : IntKind) (x y : Int) (K : V → Res) : A.bin .geq (.int k x) (.int k y) K = K (.bool (decide (y ≤ x))) := by simp [A.bin]

/-- A mask of low bits. -/
theorem bin_mask {x : Int} {m : Nat} (j : Nat) (hm : m = 2 ^ j - 1) (hj : j ≤ 32) (K : V → Res) : A.bin .and (.int .i64 x) (.int .i64 (m : Nat)) K = K (.int .i64 (x % (2 ^ j : Nat))) := by
  have hp : (2 : Nat) ^ j ≤ 2 ^ 32 := Nat.pow_le_pow_right (by omega) hj
  have hpos : 0 < (2 : Nat) ^ j := Nat.two_pow_pos j
  have hdvd : (2 : Nat) ^ j ∣ 2 ^ 64 := Nat.pow_dvd_pow 2 (by omega)
  have e : ((BitVec.ofInt 64 x &&& BitVec.ofInt 64 (m : Nat)).toNat : Int) = x % ((2 ^ j : Nat) : Int) := by
    rw [BitVec.toNat_and, BitVec.toNat_ofInt, BitVec.toNat_ofInt]
    have h1 : (((m : Nat) : Int) % ((2 ^ 64 : Nat) : Int)).toNat = 2 ^ j - 1 := by
      have : (m : Int) % ((2 ^ 64 : Nat) : Int) = (m : Int) := Int.emod_eq_of_lt (by omega) (Int.ofNat_lt.mpr (by omega))
      rw [this]; simp [hm]
    rw [h1, Nat.and_two_pow_sub_one_eq_mod]
    have h2 : 0 ≤ x % ((2 ^ 64 : Nat) : Int) := Int.emod_nonneg _ (by decide)
    rw [Int.natCast_emod, Int.toNat_of_nonneg h2]
    exact Int.emod_emod_of_dvd x (Int.natCast_dvd_natCast.mpr hdvd)
  have hb : x % ((2 ^ j : Nat) : Int) < ((2 ^ j : Nat) : Int) := Int.emod_lt_of_pos _ (by exact_mod_cast hpos)
  have hb0 : 0 ≤ x % ((2 ^ j : Nat) : Int) := Int.emod_nonneg _ (by omega)
  have hp2 : ((2 ^ j : Nat) : Int) ≤ ((4294967296 : Nat) : Int) := Int.ofNat_le.mpr hp
  refine (show A.bin .and (.int .i64 x) (.int .i64 (m : Nat)) K = K (.int .i64 (IntKind.i64.wrap ((BitVec.ofInt 64 x &&& BitVec.ofInt 64 (m : Nat)).toNat : Nat))) from by simp only [A.bin, if_true]; rfl).trans ?_
  rw [e, wrap_i64 (by omega) (by omega)]
theorem bin_shr {k : IntKind} {x : Int} {y : Nat} (K : V → Res) (h : y ≤ k.bits) : A.bin .shr (.int k x) (.int k (y : Nat)) K = K (.int k (x / (2 ^ y : Nat))) := by
  have : ¬ ((y : Int) < 0) := by omega
  simp only [A.bin, this, if_false, Int.toNat_natCast, Nat.min_eq_left h]
  rw [Int.fdiv_eq_ediv_of_nonneg x (by exact Int.pow_nonneg (by decide))]
  congr 2

theorem iaddr_lst {l : List V} {t sz : Nat} {n : Nat} {v : V} (K : V → Res) (h : l[n]? = some v) (hs : v.cells.length = sz) : A.iaddr sz (.lst l t) (.int .i64 (n : Nat)) K = K (.lptr v.cells) := by
  simp [A.iaddr, h, hs]
theorem szok_of {sz : Nat} : ∀ {l : List V}, (∀ v ∈ l, v.cells.length = sz) → szok sz l = true
  | [], _ => rfl
  | v :: l, h => by
    simp only [szok, beq_iff_eq]
    exact h v (by simp)

/-- The right to append. -/
def Tok (st : St) (sz t : Nat) : Prop := t = 1 ∨ t = 2 ∨ ∃ k, t = k + 3 ∧ st.tk k = some sz
/-- The state behind an append. -/
def appSt (st : St) (t sz : Nat) : St := match t with | k + 3 => (st.delTk k).newTk sz | _ => st.newTk sz
theorem app_tok {sz t : Nat} {l new : List V} {st : St} (K : V → St → Res) (h : Tok st sz t) (hl : l.length + new.length ≤ 1073741824) (hs : szok sz l = true) : A.app sz (.lst l t) (some new) st K = K (.lst (l ++ new) (st.nt + 3)) (appSt st t sz) := by
  rcases h with rfl | rfl | ⟨k, rfl, hk⟩
  · simp [A.app, hl, hs, appSt]
  · simp [A.app, hl, hs, appSt]
  · simp [A.app, hl, hs, appSt, hk]
@[simp] theorem appSt_ob (st : St) (t sz : Nat) : (appSt st t sz).ob = st.ob := by unfold appSt; split <;> rfl
@[simp] theorem appSt_n (st : St) (t sz : Nat) : (appSt st t sz).n = st.n := by unfold appSt; split <;> rfl
@[simp] theorem appSt_nt (st : St) (t sz : Nat) : (appSt st t sz).nt = st.nt + 1 := by unfold appSt; split <;> rfl
theorem appSt_new (st : St) (t sz : Nat) : (appSt st t sz).tk st.nt = some sz := by unfold appSt; split <;> simp [St.newTk, St.delTk]
theorem appSt_tk (st : St) (t sz j : Nat) (hj : j ≠ st.nt) (ht : t ≠ j + 3) : (appSt st t sz).tk j = st.tk j := by
  unfold appSt; split
  · rename_i k
    have : j ≠ k := by omega
    simp [St.newTk, St.delTk, hj, this]
  · simp [St.newTk, hj]

@[simp] theorem put_n (st : St) (i : Nat) (o : Ob) : (st.put i o).n = st.n := rfl
@[simp] theorem put_nt (st : St) (i : Nat) (o : Ob) : (st.put i o).nt = st.nt := rfl
@[simp] theorem put_tk (st : St) (i : Nat) (o : Ob) : (st.put i o).tk = st.tk := rfl
theorem put_ob (st : St) (i j : Nat) (o : Ob) : (st.put i o).ob j = if j = i then some o else st.ob j := rfl
@[simp] theorem put_at (st : St) (i : Nat) (o : Ob) : (st.put i o).ob i = some o := by simp [put_ob]
theorem put_ne (st : St) {i j : Nat} (o : Ob) (h : j ≠ i) : (st.put i o).ob j = st.ob j := by simp [put_ob, h]
@[simp] theorem put_put (st : St) (i : Nat) (o o' : Ob) : (st.put i o).put i o' = st.put i o' := by
  unfold St.put; congr 1; funext j; by_cases h : j = i <;> simp [h]
@[simp] theorem new_n (st : St) (o : Ob) : (st.new o).n = st.n + 1 := rfl
@[simp] theorem new_nt (st : St) (o : Ob) : (st.new o).nt = st.nt := rfl
@[simp] theorem new_tk (st : St) (o : Ob) : (st.new o).tk = st.tk := rfl
theorem new_ob (st : St) (j : Nat) (o : Ob) : (st.new o).ob j = if j = st.n then some o else st.ob j := rfl
@[simp] theorem new_at (st : St) (o : Ob) : (st.new o).ob st.n = some o := by simp [new_ob]
theorem new_ne (st : St) {j : Nat} (o : Ob) (h : j ≠ st.n) : (st.new o).ob j = st.ob j := by simp [new_ob, h]
@[simp] theorem del_n (st : St) (i : Nat) : (st.del i).n = st.n := rfl
@[simp] theorem del_nt (st : St) (i : Nat) : (st.del i).nt = st.nt := rfl
@[simp] theorem del_tk (st : St) (i : Nat) : (st.del i).tk = st.tk := rfl
theorem del_ob (st : St) (i j : Nat) : (st.del i).ob j = if j = i then none else st.ob j := rfl

/-- An object's cells, then. -/
def obo (o : Option Ob) (k : List V → Res) : Res := match o with | some (.cells cs) => k cs | _ => none
@[simp] theorem obo_some (cs : List V) (k : List V → Res) : obo (some (.cells cs)) k = k cs := rfl
@[simp] theorem ob_some' (v : V) (k : V → Res) : ob (some v) k = k v := rfl
@[simp] theorem load_ob (n i o : Nat) (st : St) (K : V → St → Res) : A.load false n (.ptr i o) st K = obo (st.ob i) fun cs => ob cs[o]? fun v => K v st := by
  cases h : st.ob i with
  | none => simp [A.load, h, obo]
  | some x => cases x with
    | cells cs => simp only [A.load, h, obo_some, Apart, Bool.false_eq_true, if_false]; cases cs[o]? <;> rfl
    | map es => simp [A.load, h, obo]
@[simp] theorem load_obA (n i o : Nat) (st : St) (K : V → St → Res) : A.load true n (.ptr i o) st K = obo (st.ob i) fun cs => _root_.cond (ones cs) (if o + n ≤ cs.length then K (.agg ((cs.drop o).take n)) st else none) none := by
  cases h : st.ob i with
  | none => simp [A.load, h, obo]
  | some x => cases x with
    | cells cs =>
      simp only [A.load, h, obo_some, ones, Apart, Bool.true_and, if_true]
      cases cs.all V.one <;> rfl
    | map es => simp [A.load, h, obo]
@[simp] theorem load_l1' (n : Nat) (v : V) (cs : List V) (st : St) (K : V → St → Res) : A.load false n (.lptr (v :: cs)) st K = K v st := rfl
theorem store_ob (i o : Nat) (v : V) (st : St) (K : St → Res) (hv : v.one = true) : A.store 1 (.ptr i o) v st K = obo (st.ob i) fun cs => if o < cs.length then K (st.put i (.cells (cs.set o v))) else none := by
  have hc : v.cells = [v] := by cases v <;> first | rfl | cases hv
  cases h : st.ob i with
  | none => simp [A.store, h, obo]
  | some x => cases x with
    | cells cs => simp [A.store, h, hc, hv, putL, Nat.succ_le_iff]
    | map es => simp [A.store, h, obo]
@[simp] theorem store_int (i o : Nat) (k : IntKind) (x : Int) (st : St) (K : St → Res) : A.store 1 (.ptr i o) (.int k x) st K = obo (st.ob i) fun cs => if o < cs.length then K (st.put i (.cells (cs.set o (.int k x)))) else none := store_ob _ _ _ _ _ rfl
@[simp] theorem store_bool (i o : Nat) (b : Bool) (st : St) (K : St → Res) : A.store 1 (.ptr i o) (.bool b) st K = obo (st.ob i) fun cs => if o < cs.length then K (st.put i (.cells (cs.set o (.bool b)))) else none := store_ob _ _ _ _ _ rfl
@[simp] theorem store_str (i o : Nat) (x : List UInt8) (st : St) (K : St → Res) : A.store 1 (.ptr i o) (.str x) st K = obo (st.ob i) fun cs => if o < cs.length then K (st.put i (.cells (cs.set o (.str x)))) else none := store_ob _ _ _ _ _ rfl
@[simp] theorem store_ptr0 (i o : Nat)  (st : St) (K : St → Res) : A.store 1 (.ptr i o) .ptr0 st K = obo (st.ob i) fun cs => if o < cs.length then K (st.put i (.cells (cs.set o .ptr0))) else none := store_ob _ _ _ _ _ rfl
@[simp] theorem store_ptr (i o : Nat) (a b : Nat) (st : St) (K : St → Res) : A.store 1 (.ptr i o) (.ptr a b) st K = obo (st.ob i) fun cs => if o < cs.length then K (st.put i (.cells (cs.set o (.ptr a b)))) else none := store_ob _ _ _ _ _ rfl
@[simp] theorem store_lst (i o : Nat) (l : List V) (t : Nat) (st : St) (K : St → Res) : A.store 1 (.ptr i o) (.lst l t) st K = obo (st.ob i) fun cs => if o < cs.length then K (st.put i (.cells (cs.set o (.lst l t)))) else none := store_ob _ _ _ _ _ rfl
@[simp] theorem store_sl (i o : Nat) (a b c d : Nat) (st : St) (K : St → Res) : A.store 1 (.ptr i o) (.sl a b c d) st K = obo (st.ob i) fun cs => if o < cs.length then K (st.put i (.cells (cs.set o (.sl a b c d)))) else none := store_ob _ _ _ _ _ rfl
@[simp] theorem store_map (i o : Nat) (a : Nat) (st : St) (K : St → Res) : A.store 1 (.ptr i o) (.map a) st K = obo (st.ob i) fun cs => if o < cs.length then K (st.put i (.cells (cs.set o (.map a)))) else none := store_ob _ _ _ _ _ rfl
@[simp] theorem store_map0 (i o : Nat)  (st : St) (K : St → Res) : A.store 1 (.ptr i o) .map0 st K = obo (st.ob i) fun cs => if o < cs.length then K (st.put i (.cells (cs.set o .map0))) else none := store_ob _ _ _ _ _ rfl
@[simp] theorem store_fn (i o : Nat) (f : Nat) (a b : List V) (st : St) (K : St → Res) : A.store 1 (.ptr i o) (.fn f a b) st K = obo (st.ob i) fun cs => if o < cs.length then K (st.put i (.cells (cs.set o (.fn f a b)))) else none := store_ob _ _ _ _ _ rfl
@[simp] theorem faddr_lptr (n : Nat) (cs : List V) (K : V → Res) : A.faddr n (.lptr cs) K = if n ≤ cs.length then K (.lptr (cs.drop n)) else none := rfl

theorem bin_andN {x : Int} (j m : Nat) (hm : m = 2 ^ j - 1) (hj : j ≤ 32) (K : V → Res) : A.bin .and (.int .i64 x) (.int .i64 (m : Nat)) K = K (.int .i64 (((x % (2 ^ j : Nat)).toNat : Nat) : Int)) := by
  rw [bin_mask j hm hj]
  rw [Int.toNat_of_nonneg (Int.emod_nonneg _ (by have := Nat.two_pow_pos j; omega))]
/-- An integer's low part. -/
def low (m : Nat) (x : Int) : Nat := (x % (m : Nat)).toNat
@[simp] theorem bin_and65535 (x : Int) (K : V → Res) : A.bin .and (.int .i64 x) (.int .i64 65535) K = K (.int .i64 (low 65536 x : Nat)) := bin_andN 16 65535 rfl (by decide) K
@[simp] theorem bin_and3 (x : Int) (K : V → Res) : A.bin .and (.int .i64 x) (.int .i64 3) K = K (.int .i64 (low 4 x : Nat)) := bin_andN 2 3 rfl (by decide) K
@[simp] theorem bin_and31 (x : Int) (K : V → Res) : A.bin .and (.int .i64 x) (.int .i64 31) K = K (.int .i64 (low 32 x : Nat)) := bin_andN 5 31 rfl (by decide) K
theorem bin_remN (a b : Nat) (K : V → Res) (hb : 0 < b) : A.bin .rem (.int .i64 (a : Nat)) (.int .i64 (b : Nat)) K = K (.int .i64 ((a % b : Nat) : Int)) := by
  rw [bin_rem K (by omega)]
  rw [Int.tmod_eq_emod_of_nonneg (by omega)]
  simp
theorem bin_shrN (a j : Nat) (K : V → Res) (hj : j ≤ 64) : A.bin .shr (.int .i64 (a : Nat)) (.int .i64 (j : Nat)) K = K (.int .i64 ((a / 2 ^ j : Nat) : Int)) := by
  rw [bin_shr K hj]
  simp
theorem bin_addN (a b : Nat) (K : V → Res) (h : a + b ≤ 9223372036854775807) : A.bin .add (.int .i64 (a : Nat)) (.int .i64 (b : Nat)) K = K (.int .i64 ((a + b : Nat) : Int)) := by
  rw [bin_add K (by omega) (by omega)]
  simp
theorem elemsOf_lst (sz : Nat) (l : List V) (t : Nat) (st : St) (h : szok sz l = true) : elemsOf 5 sz (.lst l t) st = some l := by simp [elemsOf, h]
@[simp] theorem iaddrA_ptr (len sz id off : Nat) (k : IntKind) (n : Int) (K : V → Res) : A.iaddrA len sz (.ptr id off) (.int k n) K = if 0 ≤ n ∧ n < len then K (.ptr id (off + n.toNat * sz)) else none := rfl
@[simp] theorem load_lptrA (n : Nat) (cs : List V) (st : St) (K : V → St → Res) : A.load true n (.lptr cs) st K = if n ≤ cs.length then K (.agg (cs.take n)) st else none := by simp [A.load, Apart]
theorem box_agg (cs : List V) (st : St) (K : V → St → Res) (h : cs.all V.one = true) : A.box (.agg cs) st K = K (.ptr st.n 0) (st.new (.cells cs)) := by simp [A.box, h]
theorem store_agg (n i o : Nat) (vs : List V) (st : St) (K : St → Res) : A.store n (.ptr i o) (.agg vs) st K = obo (st.ob i) fun cs => if vs.length = n ∧ o + n ≤ cs.length ∧ vs.all V.one = true then K (st.put i (.cells (putL cs o vs))) else none := by
  cases h : st.ob i with
  | none => simp [A.store, h, obo]
  | some x => cases x with
    | cells cs => simp [A.store, h]
    | map es => simp [A.store, h, obo]
theorem bin_shrL (a j : Nat) (k' : IntKind) (K : V → Res) (hj : j ≤ 64) : A.bin .shr (.int .i64 (a : Nat)) (.int k' (j : Nat)) K = K (.int .i64 ((a / 2 ^ j : Nat) : Int)) := by
  have := bin_shrN a j K hj
  simpa [A.bin] using this
def intsV (xs : List Int) : List V := xs.map fun x => .int .i64 x
@[simp] theorem intsV_len (xs : List Int) : (intsV xs).length = xs.length := by simp [intsV]
@[simp] theorem intsV_at (xs : List Int) (i : Nat) (h : i < (intsV xs).length) : (intsV xs)[i] = .int .i64 (xs[i]'(by simpa using h)) := by simp [intsV]
end Go.Ab
