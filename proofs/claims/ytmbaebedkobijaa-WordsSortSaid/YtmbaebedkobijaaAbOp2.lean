import Derived.Test.YtmbaebedkobijaaAbOp
import Derived.Lib.Strings
/- Operations that only compute, or read. -/
namespace Go.Ab
open Go.RowKit
set_option linter.unusedVariables false
set_option linter.unusedSimpArgs false

/-- A type's class: 1 bool, 2 an integer, 3 string, 4 a pointer, 5 a slice, 6 a map, 7 a function, 10 an interface. -/
def tk (P : Program) (t : TypeId) : Nat :=
  match P.underlying t with
  | some .bool => 1
  | some (.int _) => 2
  | some .string => 3
  | some (.pointer _) => 4
  | some (.slice _) => 5
  | some (.map _ _) => 6
  | some (.func _ _ _) => 7
  | some (.struct _) => 8
  | some (.array _ _) => 9
  | some (.interface _) => 10
  | _ => 0
def isAg (P : Program) (t : TypeId) : Bool := match P.underlying t with | some (.struct _) | some (.array _ _) => true | _ => false

theorem tk_pointer {P : Program} {t : TypeId} (h : tk P t = 4) : ∃ d, P.underlying t = some (.pointer d) := by
  unfold tk at h; split at h <;> first | omega | exact ⟨_, ‹_›⟩
theorem tk_bool {P : Program} {t : TypeId} (h : tk P t = 1) : P.underlying t = some .bool := by
  unfold tk at h; split at h <;> first | omega | assumption
theorem tk_int {P : Program} {t : TypeId} (h : tk P t = 2) : ∃ k, P.underlying t = some (.int k) := by
  unfold tk at h; split at h <;> first | omega | exact ⟨_, ‹_›⟩
theorem tk_string {P : Program} {t : TypeId} (h : tk P t = 3) : P.underlying t = some .string := by
  unfold tk at h; split at h <;> first | omega | assumption
theorem tk_slice {P : Program} {t : TypeId} (h : tk P t = 5) : ∃ d, P.underlying t = some (.slice d) := by
  unfold tk at h; split at h <;> first | omega | exact ⟨_, ‹_›⟩
theorem tk_map {P : Program} {t : TypeId} (h : tk P t = 6) : ∃ d e, P.underlying t = some (.map d e) := by
  unfold tk at h; split at h <;> first | omega | exact ⟨_, _, ‹_›⟩
theorem tk_func {P : Program} {t : TypeId} (h : tk P t = 7) : ∃ a b c, P.underlying t = some (.func a b c) := by
  unfold tk at h; split at h <;> first | omega | exact ⟨_, _, _, ‹_›⟩

theorem run_under {P : Program} {t : TypeId} {d : TypeDesc} (h : P.underlying t = some d) (w : World) : (underlying t).run P w = .ok d w := by
  simp [underlying, h]

def A.bin (op : BinOp) (a b : V) (K : V → Res) : Res :=
  match a, b with
  | .int k x, .int k' y =>
    match op with
    | .add => if k = k' then K (.int k (k.wrap (x + y))) else none
    | .sub => if k = k' then K (.int k (k.wrap (x - y))) else none
    | .mul => if k = k' then K (.int k (k.wrap (x * y))) else none
    | .quo => if k = k' then (if y = 0 then none else K (.int k (k.wrap (x.tdiv y)))) else none
    | .rem => if k = k' then (if y = 0 then none else K (.int k (x.tmod y))) else none
    | .and => if k = k' then K (.int k (k.wrap (BitVec.ofInt k.bits x &&& BitVec.ofInt k.bits y).toNat)) else none
    | .or => if k = k' then K (.int k (k.wrap (BitVec.ofInt k.bits x ||| BitVec.ofInt k.bits y).toNat)) else none
    | .xor => if k = k' then K (.int k (k.wrap (BitVec.ofInt k.bits x ^^^ BitVec.ofInt k.bits y).toNat)) else none
    | .shl => if y < 0 then none else K (.int k (k.wrap (x * 2 ^ (min y.toNat k.bits))))
    | .shr => if y < 0 then none else K (.int k (x.fdiv (2 ^ (min y.toNat k.bits))))
    | .lss => if k = k' then K (.bool (decide (x < y))) else none
    | .leq => if k = k' then K (.bool (decide (x ≤ y))) else none
    | .gtr => if k = k' then K (.bool (decide (x > y))) else none
    | .geq => if k = k' then K (.bool (decide (x ≥ y))) else none
    | _ => none
  | .str s, .str t =>
    match op with
    | .add => if s.length + t.length ≤ 4611686018427387904 then K (.str (s ++ t)) else none
    | .lss => K (.bool (Op.bytesLess s t))
    | .leq => K (.bool (Op.bytesLess s t || s == t))
    | .gtr => K (.bool !(Op.bytesLess s t || s == t))
    | .geq => K (.bool !(Op.bytesLess s t))
    | _ => none
  | _, _ => none

theorem Step.int {P : Program} {W0 : World} {B : Nat} {e : E} {s : Sem Value} {K : V → St → Res} {r : Out × St} {k : IntKind} {n : Int} (hr : Rel W0 B e) (hk : K (.int k n) e.st = some r) (hs : s.run P e.w = .ok (.int k n) e.w) : Step P W0 B e s K r :=
  Step.pure hr hk hs (.int _ _ .nil)
theorem Step.bool {P : Program} {W0 : World} {B : Nat} {e : E} {s : Sem Value} {K : V → St → Res} {r : Out × St} {b : Bool} (hr : Rel W0 B e) (hk : K (.bool b) e.st = some r) (hs : s.run P e.w = .ok (.bool b) e.w) : Step P W0 B e s K r :=
  Step.pure hr hk hs (.bool _ .nil)
theorem Step.str {P : Program} {W0 : World} {B : Nat} {e : E} {s : Sem Value} {K : V → St → Res} {r : Out × St} {l : List UInt8} (hr : Rel W0 B e) (hk : K (.str l) e.st = some r) (hs : s.run P e.w = .ok (.string ⟨l.toArray⟩) e.w) : Step P W0 B e s K r :=
  Step.pure hr hk hs (.str _ .nil)

theorem bin_sound {P : Program} {W0 : World} {B : Nat} {e : E} {K : V → St → Res} {r : Out × St} {op : BinOp} {t : TypeId} {x y : Operand} {a b : V} {a' b' : Value} (hop : op ≠ .eql ∧ op ≠ .neq)
    (h : A.bin op a b (fun v => K v e.st) = some r) (hr : Rel W0 B e) (ha : Rs e [a] [a']) (hb : Rs e [b] [b']) : Step P W0 B e (do eqGuard op t x y a' b'; binOp op t a' b') K r := by
  have hg : ∀ a' b', eqGuard op t x y a' b' = Pure.pure () := by
    intro a' b'
    unfold eqGuard
    cases op <;> simp_all
  rw [hg]
  simp only [pure_bind]
  unfold A.bin at h
  split at h
  · rename_i k x1 k' y1
    cases ha with | int _ _ _ =>
    cases hb with | int _ _ _ =>
    split at h <;> (try cases h)
    all_goals first
      | (split at h
         · rename_i hk; subst hk
           first
             | exact Step.int hr h (by simp [binOp, Op.intArith, Op.intBits])
             | exact Step.bool hr h (by simp [binOp, Op.intCmp])
             | (split at h
                · cases h
                · rename_i hy
                  exact Step.int hr h (by simp [binOp, Op.intDiv, hy]))
         · cases h)
      | (split at h
         · cases h
         · rename_i hy
           exact Step.int hr h (by simp [binOp, Op.shift, hy]))
  · rename_i s1 t1
    cases ha with | str _ _ =>
    cases hb with | str _ _ =>
    split at h <;> (try cases h)
    all_goals first
      | exact Step.bool hr h (by simp [binOp, Op.stringOp, Lib.toList_data])
      | (split at h
         · rename_i hl
           have hl' : ¬ (IntKind.i64.max < (s1.length : Int) + (t1.length : Int)) := by simp [IntKind.max, IntKind.signed, IntKind.bits]; omega
           have happ : ((⟨s1.toArray⟩ : ByteArray) ++ ⟨t1.toArray⟩) = ⟨(s1 ++ t1).toArray⟩ := by apply ByteArray.ext; simp
           have e1 : (⟨s1.toArray⟩ : ByteArray).size = s1.length := by simp [ByteArray.size]
           have e2 : (⟨t1.toArray⟩ : ByteArray).size = t1.length := by simp [ByteArray.size]
           refine Step.str hr h ?_
           simp only [binOp, Op.stringOp, e1, e2, happ, Int.natCast_add, gt_iff_lt]
           rw [if_neg hl']; rfl
         · cases h)
  · cases h

/-- '==', '!=' at a type of a class. -/
def A.eql (ty : Nat) (neg : Bool) (a b : V) (K : V → Res) : Res :=
  match a, b with
  | .int k x, .int k' y => if k = k' then K (.bool (if neg then x != y else x == y)) else none
  | .str s, .str t => K (.bool (if neg then s != t else s == t))
  | .bool s, .bool t => if ty = 1 then K (.bool (if neg then s != t else s == t)) else none
  | .ptr0, .ptr0 => if ty = 4 then K (.bool !neg) else none
  | .ptr0, .ptr _ _ | .ptr _ _, .ptr0 => if ty = 4 then K (.bool neg) else none
  | .map0, .map0 => if ty = 6 then K (.bool !neg) else none
  | .map0, .map _ | .map _, .map0 => if ty = 6 then K (.bool neg) else none
  | .lst [] 1, .lst [] 1 => if ty = 5 then K (.bool !neg) else none
  | .lst (_ :: _) _, .lst [] 1 => if ty = 5 then K (.bool neg) else none
  | .sl _ _ _ _, .lst [] 1 => if ty = 5 then K (.bool neg) else none
  | .fn0, .fn0 => if ty = 7 then K (.bool !neg) else none
  | .fn0, .fn _ _ _ | .fn _ _ _, .fn0 => if ty = 7 then K (.bool neg) else none
  | _, _ => none

theorem guard_eq {P : Program} (neg : Bool) {t : TypeId} {x y : Operand} {a b : Value} {w : World} (h1 : a ≠ .nilIface) (h2 : ∀ A, a ≠ .agg A) : (eqGuard (if neg then .neq else .eql) t x y a b).run P w = .ok () w := by
  cases neg <;> cases a <;> first | rfl | exact absurd rfl h1 | exact absurd rfl (h2 _)

theorem equal_lift {P : Program} {t : TypeId} {a b : Value} {w : World} {r : Bool} (h : ∀ d, (Op.equalIn (d + 1) t a b).run P w = .ok r w) : (Op.equal t a b).run P w = .ok r w := h 9999
def eqDo (neg : Bool) (t : TypeId) (a b : Value) : Sem Value := do
  let q ← Op.equal t a b
  Pure.pure (.bool (if neg then !q else q))
theorem eq_run {P : Program} (neg : Bool) {t : TypeId} {x y : Operand} (a b : Value) {w : World} {r : Bool} (h1 : a ≠ .nilIface) (h2 : ∀ A, a ≠ .agg A) (h : ∀ d, (Op.equalIn (d + 1) t a b).run P w = .ok r w)
    (hb : ∀ neg : Bool, binOp (if neg then .neq else .eql) t a b = eqDo neg t a b) :
    (do eqGuard (if neg then .neq else .eql) t x y a b; binOp (if neg then .neq else .eql) t a b : Sem Value).run P w = .ok (.bool (if neg then !r else r)) w := by
  simp only [Sem.run_bind]
  rw [guard_eq neg h1 h2, hb]
  simp [Result.andThen, eqDo, equal_lift h]

theorem eql_sound {P : Program} {W0 : World} {B : Nat} {e : E} {K : V → St → Res} {r : Out × St} {t : TypeId} {x y : Operand} {a b : V} {a' b' : Value} (neg : Bool)
    (h : A.eql (tk P t) neg a b (fun v => K v e.st) = some r) (hr : Rel W0 B e) (ha : Rs e [a] [a']) (hb : Rs e [b] [b']) : Step P W0 B e (do eqGuard (if neg then .neq else .eql) t x y a' b'; binOp (if neg then .neq else .eql) t a' b') K r := by
  unfold A.eql at h
  split at h
  · cases ha with | int _ _ _ =>
    cases hb with | int _ _ _ =>
    split at h
    · rename_i hk; subst hk
      exact Step.bool hr h (by simp only [Sem.run_bind]; rw [guard_eq neg (by intro h; cases h) (by intro A h; cases h)]; cases neg <;> simp [binOp, Op.intCmp])
    · cases h
  · rename_i s1 t1
    cases ha with | str _ _ =>
    cases hb with | str _ _ =>
    exact Step.bool hr h (by simp only [Sem.run_bind]; rw [guard_eq neg (by intro h; cases h) (by intro A h; cases h)]; cases neg <;> simp [binOp, Op.stringOp, Lib.toList_data, bne])
  · rename_i s u
    cases ha with | bool _ _ =>
    cases hb with | bool _ _ =>
    split at h
    · rename_i hk
      skip
      have q := fun x y => eq_run (P := P) neg (t := t) (x := x) (y := y) (w := e.w) (r := (s == u)) (.bool s) (.bool u) (by intro h; cases h) (by intro A h; cases h) (fun d => by simp only [Op.equalIn, Sem.run_bind, run_under (tk_bool hk), Result.andThen]; rfl) (fun neg => by cases neg <;> rfl)
      exact Step.bool hr (b := if neg then !(s == u) else (s == u)) (by cases neg <;> exact h) (q x y)
    · cases h
  · cases ha with | ptr0 _ =>
    cases hb with | ptr0 _ =>
    split at h
    · rename_i hk
      obtain ⟨d0, hd⟩ := tk_pointer hk
      have q := fun x y => eq_run (P := P) neg (t := t) (x := x) (y := y) (w := e.w) (r := true) (.pointer none) (.pointer none) (by intro h; cases h) (by intro A h; cases h) (fun d => by simp only [Op.equalIn, Sem.run_bind, run_under hd, Result.andThen]; rfl) (fun neg => by cases neg <;> rfl)
      exact Step.bool hr (b := if neg then !true else true) (by cases neg <;> exact h) (q x y)
    · cases h
  · cases ha with | ptr0 _ =>
    cases hb with | ptr _ _ a2 _ _ _ =>
    split at h
    · rename_i hk
      obtain ⟨d0, hd⟩ := tk_pointer hk
      have q := fun x y => eq_run (P := P) neg (t := t) (x := x) (y := y) (w := e.w) (r := false) (.pointer none) (.pointer (some a2)) (by intro h; cases h) (by intro A h; cases h) (fun d => by simp only [Op.equalIn, Sem.run_bind, run_under hd, Result.andThen]; rfl) (fun neg => by cases neg <;> rfl)
      exact Step.bool hr (b := if neg then !false else false) (by cases neg <;> exact h) (q x y)
    · cases h
  · cases ha with | ptr _ _ a2 _ _ _ =>
    cases hb with | ptr0 _ =>
    split at h
    · rename_i hk
      obtain ⟨d0, hd⟩ := tk_pointer hk
      have q := fun x y => eq_run (P := P) neg (t := t) (x := x) (y := y) (w := e.w) (r := false) (.pointer (some a2)) (.pointer none) (by intro h; cases h) (by intro A h; cases h) (fun d => by simp only [Op.equalIn, Sem.run_bind, run_under hd, Result.andThen]; rfl) (fun neg => by cases neg <;> rfl)
      exact Step.bool hr (b := if neg then !false else false) (by cases neg <;> exact h) (q x y)
    · cases h
  · cases ha with | map0 _ =>
    cases hb with | map0 _ =>
    split at h
    · rename_i hk
      obtain ⟨d0, d1, hd⟩ := tk_map hk
      have q := fun x y => eq_run (P := P) neg (t := t) (x := x) (y := y) (w := e.w) (r := true) (.map none) (.map none) (by intro h; cases h) (by intro A h; cases h) (fun d => by simp only [Op.equalIn, Sem.run_bind, run_under hd, Result.andThen]; rfl) (fun neg => by cases neg <;> rfl)
      exact Step.bool hr (b := if neg then !true else true) (by cases neg <;> exact h) (q x y)
    · cases h
  · cases ha with | map0 _ =>
    cases hb with | map _ a2 _ _ _ =>
    split at h
    · rename_i hk
      obtain ⟨d0, d1, hd⟩ := tk_map hk
      have q := fun x y => eq_run (P := P) neg (t := t) (x := x) (y := y) (w := e.w) (r := false) (.map none) (.map (some a2)) (by intro h; cases h) (by intro A h; cases h) (fun d => by simp only [Op.equalIn, Sem.run_bind, run_under hd, Result.andThen]; rfl) (fun neg => by cases neg <;> rfl)
      exact Step.bool hr (b := if neg then !false else false) (by cases neg <;> exact h) (q x y)
    · cases h
  · cases ha with | map _ a2 _ _ _ =>
    cases hb with | map0 _ =>
    split at h
    · rename_i hk
      obtain ⟨d0, d1, hd⟩ := tk_map hk
      have q := fun x y => eq_run (P := P) neg (t := t) (x := x) (y := y) (w := e.w) (r := false) (.map (some a2)) (.map none) (by intro h; cases h) (by intro A h; cases h) (fun d => by simp only [Op.equalIn, Sem.run_bind, run_under hd, Result.andThen]; rfl) (fun neg => by cases neg <;> rfl)
      exact Step.bool hr (b := if neg then !false else false) (by cases neg <;> exact h) (q x y)
    · cases h
  · have ea : a' = .slice none 0 0 := by cases ha with | lst0 _ _ _ => rfl | lste _ _ ht _ => exact (ht.1 rfl).elim | lst _ _ _ _ _ _ _ _ _ _ _ _ _ _ _ _ _ hx _ _ => exact (hx.1 rfl).elim
    have eb : b' = .slice none 0 0 := by cases hb with | lst0 _ _ _ => rfl | lste _ _ ht _ => exact (ht.1 rfl).elim | lst _ _ _ _ _ _ _ _ _ _ _ _ _ _ _ _ _ hx _ _ => exact (hx.1 rfl).elim
    subst ea; subst eb
    split at h
    · rename_i hk
      obtain ⟨d0, hd⟩ := tk_slice hk
      have q := fun x y => eq_run (P := P) neg (t := t) (x := x) (y := y) (w := e.w) (r := true) (.slice none 0 0) (.slice none 0 0) (by intro h; cases h) (by intro A h; cases h) (fun d => by simp only [Op.equalIn, Sem.run_bind, run_under hd, Result.andThen]; rfl) (fun neg => by cases neg <;> rfl)
      exact Step.bool hr (b := if neg then !true else true) (by cases neg <;> exact h) (q x y)
    · cases h
  · have ea : ∃ ad n c, a' = .slice (some ad) n c := by cases ha with | lst _ _ _ _ _ _ _ _ _ _ _ _ _ _ _ _ _ _ _ _ => exact ⟨_, _, _, rfl⟩
    have eb : b' = .slice none 0 0 := by cases hb with | lst0 _ _ _ => rfl | lste _ _ ht _ => exact (ht.1 rfl).elim | lst _ _ _ _ _ _ _ _ _ _ _ _ _ _ _ _ _ hx _ _ => exact (hx.1 rfl).elim
    obtain ⟨ad, n0, c0, rfl⟩ := ea; subst eb
    split at h
    · rename_i hk
      obtain ⟨d0, hd⟩ := tk_slice hk
      have q := fun x y => eq_run (P := P) neg (t := t) (x := x) (y := y) (w := e.w) (r := false) (.slice (some ad) n0 c0) (.slice none 0 0) (by intro h; cases h) (by intro A h; cases h) (fun d => by simp only [Op.equalIn, Sem.run_bind, run_under hd, Result.andThen]; rfl) (fun neg => by cases neg <;> rfl)
      exact Step.bool hr (b := if neg then !false else false) (by cases neg <;> exact h) (q x y)
    · cases h
  · have ea : ∃ ad n c, a' = .slice (some ad) n c := by cases ha with | sl _ _ _ _ _ _ _ _ _ _ => exact ⟨_, _, _, rfl⟩
    have eb : b' = .slice none 0 0 := by cases hb with | lst0 _ _ _ => rfl | lste _ _ ht _ => exact (ht.1 rfl).elim | lst _ _ _ _ _ _ _ _ _ _ _ _ _ _ _ _ _ hx _ _ => exact (hx.1 rfl).elim
    obtain ⟨ad, n0, c0, rfl⟩ := ea; subst eb
    split at h
    · rename_i hk
      obtain ⟨d0, hd⟩ := tk_slice hk
      have q := fun x y => eq_run (P := P) neg (t := t) (x := x) (y := y) (w := e.w) (r := false) (.slice (some ad) n0 c0) (.slice none 0 0) (by intro h; cases h) (by intro A h; cases h) (fun d => by simp only [Op.equalIn, Sem.run_bind, run_under hd, Result.andThen]; rfl) (fun neg => by cases neg <;> rfl)
      exact Step.bool hr (b := if neg then !false else false) (by cases neg <;> exact h) (q x y)
    · cases h
  · cases ha with | fn0 _ =>
    cases hb with | fn0 _ =>
    split at h
    · rename_i hk
      obtain ⟨d0, d1, d2, hd⟩ := tk_func hk
      have q := fun x y => eq_run (P := P) neg (t := t) (x := x) (y := y) (w := e.w) (r := true) .nilFunc .nilFunc (by intro h; cases h) (by intro A h; cases h) (fun d => by simp only [Op.equalIn, Sem.run_bind, run_under hd, Result.andThen]; rfl) (fun neg => by cases neg <;> rfl)
      exact Step.bool hr (b := if neg then !true else true) (by cases neg <;> exact h) (q x y)
    · cases h
  · rename_i f0 _ _
    cases ha with | fn0 _ =>
    cases hb with | fn _ _ _ F0 C0 _ _ _ =>
    split at h
    · rename_i hk
      obtain ⟨d0, d1, d2, hd⟩ := tk_func hk
      have q := fun x y => eq_run (P := P) neg (t := t) (x := x) (y := y) (w := e.w) (r := false) .nilFunc (.func (.func f0) F0 C0) (by intro h; cases h) (by intro A h; cases h) (fun d => by simp only [Op.equalIn, Sem.run_bind, run_under hd, Result.andThen]; rfl) (fun neg => by cases neg <;> rfl)
      exact Step.bool hr (b := if neg then !false else false) (by cases neg <;> exact h) (q x y)
    · cases h
  · rename_i f0 _ _
    cases ha with | fn _ _ _ F0 C0 _ _ _ =>
    cases hb with | fn0 _ =>
    split at h
    · rename_i hk
      obtain ⟨d0, d1, d2, hd⟩ := tk_func hk
      have q := fun x y => eq_run (P := P) neg (t := t) (x := x) (y := y) (w := e.w) (r := false) (.func (.func f0) F0 C0) .nilFunc (by intro h; cases h) (by intro A h; cases h) (fun d => by simp only [Op.equalIn, Sem.run_bind, run_under hd, Result.andThen]; rfl) (fun neg => by cases neg <;> rfl)
      exact Step.bool hr (b := if neg then !false else false) (by cases neg <;> exact h) (q x y)
    · cases h
  · cases h

def A.un (op : UnOp) (a : V) (K : V → Res) : Res :=
  match op, a with
  | .not, .bool b => K (.bool !b)
  | .neg, .int k n => K (.int k (k.wrap (0 - n)))
  | .xor, .int k n => K (.int k (k.wrap (BitVec.ofInt k.bits (if k.signed then -1 else k.max) ^^^ BitVec.ofInt k.bits n).toNat))
  | _, _ => none
theorem un_sound {P : Program} {W0 : World} {B : Nat} {e : E} {K : V → St → Res} {r : Out × St} {op : UnOp} {a : V} {a' : Value}
    (h : A.un op a (fun v => K v e.st) = some r) (hr : Rel W0 B e) (ha : Rs e [a] [a']) : Step P W0 B e (Op.unary op a') K r := by
  unfold A.un at h
  split at h
  · cases ha with | bool _ _ => exact Step.bool hr h (by simp [Op.unary])
  · cases ha with | int _ _ _ => exact Step.int hr h (by simp [Op.unary, Op.intArith])
  · cases ha with | int _ _ _ => exact Step.int hr h (by simp [Op.unary, Op.intBits])
  · cases h

def A.pick (c a b : V) (K : V → Res) : Res := match c with | .bool t => K (if t then a else b) | _ => none
theorem pick_sound {P : Program} {W0 : World} {B : Nat} {e : E} {K : V → St → Res} {r : Out × St} {c a b : V} {c' a' b' : Value}
    (h : A.pick c a b (fun v => K v e.st) = some r) (hr : Rel W0 B e) (hc : Rs e [c] [c']) (ha : Rs e [a] [a']) (hb : Rs e [b] [b']) : Step P W0 B e (do Pure.pure (if ← asBool c' then a' else b')) K r := by
  unfold A.pick at h
  split at h
  · rename_i t
    cases hc with | bool _ _ =>
    exact Step.pure hr h (v' := if t then a' else b') (by simp [asBool]) (by cases t <;> assumption)
  · cases h

def A.ext (a : V) (i : Nat) (K : V → Res) : Res := match a with | .tup vs => (match vs[i]? with | some v => K v | none => none) | _ => none
theorem ext_sound {P : Program} {W0 : World} {B : Nat} {e : E} {K : V → St → Res} {r : Out × St} {a : V} {a' : Value} {i : Nat}
    (h : A.ext a i (fun v => K v e.st) = some r) (hr : Rel W0 B e) (ha : Rs e [a] [a']) : Step P W0 B e (Instr.extract a' i) K r := by
  unfold A.ext at h
  split at h
  · split at h
    · rename_i v hv
      cases ha with | tup vs A h1 _ =>
      obtain ⟨w, hw, hrs⟩ := h1.get i hv
      have : A[i]? = some w := by simpa using hw
      exact Step.pure hr h (by simp [Instr.extract, this]) hrs
    · cases h
  · cases h

/-- A part of a struct or an array. -/
def Apart (ag : Bool) (n off : Nat) (cs : List V) (K : V → Res) : Res :=
  if ag then (if off + n ≤ cs.length then K (.agg ((cs.drop off).take n)) else none) else (match cs[off]? with | some v => K v | none => none)
theorem isAgg_run (P : Program) (t : TypeId) (w : World) (h : ∃ d, P.underlying t = some d) : (isAgg t).run P w = .ok (isAg P t) w := by
  obtain ⟨d, hd⟩ := h
  simp only [isAgg, Sem.run_bind, run_under hd, Result.andThen, isAg, hd]
  cases d <;> simp
theorem sizeOf_run {P : Program} {t : TypeId} {i : TypeInfo} (h : P.info? t = some i) (w : World) : (Go.sizeOf t).run P w = .ok i.size w := by
  simp [Go.sizeOf, typeInfo, h]
theorem info_of_under {P : Program} {t : TypeId} {d : TypeDesc} (h : P.underlying t = some d) : ∃ i, P.info? t = some i := by
  unfold Program.underlying at h
  split at h
  · exact ⟨_, ‹_›⟩
  · exact ⟨_, ‹_›⟩
  · cases h
theorem cellsOf_eq {P : Program} {t : TypeId} {i : TypeInfo} (h : P.info? t = some i) : P.cellsOf t = i.size := by
  simp [Program.cellsOf, h]
/-- Is there such a type? -/
def known (P : Program) (t : TypeId) : Bool := (P.underlying t).isSome
theorem known_under {P : Program} {t : TypeId} (h : known P t = true) : ∃ d, P.underlying t = some d := Option.isSome_iff_exists.mp h

theorem part_sound {P : Program} {W0 : World} {B : Nat} {e : E} {K : V → St → Res} {r : Out × St} {t : TypeId} {off : Nat} {cs : List V} {A : Array Value} (hk : known P t = true)
    (h : Apart (isAg P t) (P.cellsOf t) off cs (fun v => K v e.st) = some r) (hr : Rel W0 B e) (ho : ∀ v ∈ cs, v.one = true) (ha : Rs e cs A.toList) : Step P W0 B e (Go.part t A off) K r := by
  obtain ⟨d, hd⟩ := known_under hk
  obtain ⟨i, hi⟩ := info_of_under hd
  unfold Apart at h
  have hrun := isAgg_run P t e.w ⟨d, hd⟩
  split at h
  · rename_i hag
    rw [hag] at hrun
    split at h
    · rename_i hle
      rw [cellsOf_eq hi] at h hle
      refine Step.pure hr h (v' := .agg (A.extract off (off + i.size))) (by simp [Go.part, hrun, sizeOf_run hi]) (.agg _ _ (fun v hv => ho v (List.mem_of_mem_drop (List.mem_of_mem_take hv))) ?_ .nil)
      have := (ha.drop off).take i.size
      rw [show (A.extract off (off + i.size)).toList = (A.toList.drop off).take i.size from by
        simp [List.extract_eq_take_drop]]
      exact this
    · cases h
  · rename_i hag
    have hag' : isAg P t = false := by simpa using hag
    rw [hag'] at hrun
    split at h
    · rename_i v hv
      obtain ⟨w, hw, hrs⟩ := ha.get off hv
      have : A[off]? = some w := by simpa using hw
      exact Step.pure hr h (by simp [Go.part, hrun, this]) hrs
    · cases h

/-- A field of a struct's value. -/
def fld (P : Program) (s : TypeId) (f : Nat) : Option Field := match P.underlying s with | some (.struct fs) => fs[f]? | _ => none
def A.field (ag : Bool) (n off : Nat) (a : V) (K : V → Res) : Res := match a with | .agg cs => Apart ag n off cs K | _ => none
theorem field_sound {P : Program} {W0 : World} {B : Nat} {e : E} {K : V → St → Res} {r : Out × St} {s : TypeId} {f : Nat} {fd : Field} {a : V} {a' : Value} (hf : fld P s f = some fd) (hk : known P fd.type = true)
    (h : A.field (isAg P fd.type) (P.cellsOf fd.type) fd.offset a (fun v => K v e.st) = some r) (hr : Rel W0 B e) (ha : Rs e [a] [a']) : Step P W0 B e (Instr.field s a' f) K r := by
  unfold A.field at h
  split at h
  · cases ha with | agg cs A ho h1 _ =>
    unfold fld at hf
    split at hf
    · rename_i fs hs
      obtain ⟨v, v', e', g1, g2, g3, g4, g5⟩ := part_sound (P := P) hk h hr ho h1
      exact ⟨v, v', e', g1, by simp [Instr.field, run_under hs, hf, asAgg, g2], g3, g4, g5⟩
    · cases hf
  · cases h

def A.nilc (a : V) (K : V → Res) : Res := match a with | .ptr _ _ | .lptr _ => K a | _ => none

/-- A field's place. -/
def A.faddr (off : Nat) (a : V) (K : V → Res) : Res := match a with | .ptr id o => K (.ptr id (o + off)) | .lptr cs => if off ≤ cs.length then K (.lptr (cs.drop off)) else none | _ => none
theorem add_plain (b o n : Nat) : (⟨b, o, none⟩ : Addr).add n = ⟨b, o + n, none⟩ := by
  unfold Addr.add; split
  · rename_i h; subst h; rfl
  · rfl
theorem faddr_sound {P : Program} {W0 : World} {B : Nat} {e : E} {K : V → St → Res} {r : Out × St} {s : TypeId} {f : Nat} {fd : Field} {a : V} {a' : Value} (hf : fld P s f = some fd) (hi : ∃ i, P.info? fd.type = some i) (h0 : P.cellsOf fd.type ≠ 0)
    (h : A.faddr fd.offset a (fun v => K v e.st) = some r) (hr : Rel W0 B e) (ha : Rs e [a] [a']) : Step P W0 B e (Instr.fieldAt s a' f) K r := by
  unfold fld at hf
  split at hf
  · rename_i fs hs
    obtain ⟨i, hi⟩ := hi
    rw [cellsOf_eq hi] at h0
    unfold A.faddr at h
    split at h
    · rename_i id o
      cases ha with | ptr id off a hn hl _ =>
      refine Step.pure hr h (v' := .pointer (some (a.add fd.offset))) (by simp [Instr.fieldAt, run_under hs, hf, Instr.sureAddr, fieldPlace, sizeOf_run hi, h0]) (.ptr _ _ _ hn (fun x hx => ?_) .nil)
      rw [hl x hx, add_plain]
    · rename_i cs
      split at h
      · rename_i hle
        cases ha with | lptr cs b o c ty fz hb hf' ho hc _ =>
        refine Step.pure hr h (v' := .pointer (some ⟨b, o + fd.offset, none⟩)) (by simp [Instr.fieldAt, run_under hs, hf, Instr.sureAddr, fieldPlace, sizeOf_run hi, h0, add_plain]) (.lptr _ b (o + fd.offset) c ty fz hb (by simp; omega) (fun v hv => ho v (List.mem_of_mem_drop hv)) ?_ .nil)
        have := hc.drop fd.offset
        rw [List.drop_take, List.drop_drop] at this
        simpa using this
      · cases h
    · cases h
  · cases hf
end Go.Ab
