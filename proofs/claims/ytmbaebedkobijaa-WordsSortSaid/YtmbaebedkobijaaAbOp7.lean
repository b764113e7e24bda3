import Derived.Test.YtmbaebedkobijaaAbOp6
import Derived.Lib.ConvBytes
import Derived.Laws.BytesString
import Derived.Great.BuildSlice
import Derived.Laws.MakeOwn
import Derived.Laws.Build
/- Values that are built; conversions. -/
namespace Go.Ab
open Go.RowKit
set_option linter.unusedVariables false
set_option linter.unusedSimpArgs false

def All2 {α β : Type} (R : α → β → Prop) : List α → List β → Prop
  | [], [] => True
  | a :: as, b :: bs => R a b ∧ All2 R as bs
  | _, _ => False

/-- Parts are put into cells: (place, size, value). -/
def fillP : List V → List (Nat × Nat × V) → Option (List V)
  | cs, [] => some cs
  | cs, (off, size, v) :: rest => if v.cells.length = size ∧ off + size ≤ cs.length then fillP (putL cs off v.cells) rest else none

theorem foldl_put (vs : List Value) : ∀ (cs : Array Value) (off k : Nat), (vs.toArray.zipIdx k).foldl (fun cs (p : Value × Nat) => cs.setIfInBounds (off + p.2) p.1) cs = putA cs (off + k) vs := by
  intro cs off k
  rw [← Array.foldl_toList]
  simp only [Array.toList_zipIdx, List.toList_toArray]
  induction vs generalizing cs k with
  | nil => rfl
  | cons v vs ih => simp only [List.zipIdx_cons, List.foldl_cons, putA]; rw [ih]; rfl

theorem fill_sound {e : E} (place : Nat → Option (Nat × Nat)) : ∀ (parts : List (Nat × Value)) (ps : List (Nat × Nat × V)) (cs cs2 : List V) (c : Array Value), fillP cs ps = some cs2 → Rs e cs c.toList →
    (All2 (fun (p : Nat × Value) (q : Nat × Nat × V) => place p.1 = some (q.1, q.2.1) ∧ Rs e [q.2.2] [p.2]) parts ps) → ∃ c2, Instr.fill place c parts = some c2 ∧ Rs e cs2 c2.toList := by
  intro parts
  induction parts with
  | nil =>
    intro ps cs cs2 c h hc hp
    cases ps with
    | cons _ _ => exact hp.elim
    | nil =>
    cases h
    exact ⟨c, rfl, hc⟩
  | cons p parts ih =>
    intro ps cs cs2 c h hc hp
    cases ps with
    | nil => exact hp.elim
    | cons q qs =>
    obtain ⟨h1, h2⟩ := hp
    obtain ⟨i, v'⟩ := p
    obtain ⟨off, size, v⟩ := q
    obtain ⟨hp1, hv⟩ := h1
    simp only at hp1 hv
    unfold fillP at h
    split at h
    · rename_i hh
      have hvc := hv.cells
      have hvl : v.cells.length = v'.cells.size := by simpa using hvc.length
      have hcl := hc.length
      simp only [Array.length_toList] at hcl
      have hnew : Rs e (putL cs off v.cells) (putA c off v'.cells.toList).toList := by rw [putA_list]; exact Rs.putL off hc hvc
      obtain ⟨c2, g1, g2⟩ := ih qs _ cs2 _ h hnew h2
      refine ⟨c2, ?_, g2⟩
      unfold Instr.fill
      simp only [hp1]
      rw [if_neg (by simp; omega)]
      have := foldl_put v'.cells.toList c off 0
      simp only [Nat.add_zero, Array.toArray_toList] at this
      rw [← this] at g1
      exact g1
    · cases h

def A.build (zs : List V) (ps : List (Nat × Nat × V)) (K : V → Res) : Res :=
  match fillP zs ps with
  | some cs => if cs.all V.one then K (.agg cs) else none
  | none => none

/-- The places of a struct's or an array's parts. -/
def placeOf (P : Program) (t : TypeId) (i : Nat) : Option (Nat × Nat) :=
  match P.underlying t with
  | some (.struct fs) => (fs[i]?).map fun f => (f.offset, P.cellsOf f.type)
  | some (.array _ x) => some (i * P.cellsOf x, P.cellsOf x)
  | _ => none
/-- All types of a struct's or an array's parts are known. -/
def partsKnown (P : Program) (t : TypeId) : Bool :=
  match P.underlying t with
  | some (.struct fs) => fs.all fun f => (P.info? f.type).isSome
  | some (.array _ x) => (P.info? x).isSome
  | _ => false

theorem mapM_places {P : Program} (w : World) : ∀ (fs : List Field), (∀ f ∈ fs, (P.info? f.type).isSome = true) →
    (fs.mapM fun f => (do Pure.pure (f.offset, ← Go.sizeOf f.type) : Sem (Nat × Nat))).run P w = .ok (fs.map fun f => (f.offset, P.cellsOf f.type)) w
  | [], _ => by simp
  | f :: fs, h => by
    obtain ⟨i, hi⟩ := Option.isSome_iff_exists.mp (h f (by simp))
    have ih := mapM_places w fs (fun x hx => h x (List.mem_cons_of_mem _ hx))
    simp only [List.mapM_cons, Sem.run_bind, sizeOf_run hi, Result.andThen, Sem.run_pure, ih, List.map_cons, cellsOf_eq hi]

theorem build_sound {P : Program} {W0 : World} {B : Nat} {e : E} {K : V → St → Res} {r : Out × St} {t : TypeId} {parts : Array (Nat × Value)} {zs : V} {ps : List (Nat × Nat × V)} (hz : zeroV P t = some zs) (hk : partsKnown P t = true)
    (h : A.build zs.cells ps (fun v => K v e.st) = some r) (hr : Rel W0 B e) (hp : All2 (fun (p : Nat × Value) (q : Nat × Nat × V) => placeOf P t p.1 = some (q.1, q.2.1) ∧ Rs e [q.2.2] [p.2]) parts.toList ps) : Step P W0 B e (Instr.build t parts) K r := by
  obtain ⟨i, z, hi, hiz, hc⟩ := zeroV_some hz
  have hzr := (constV_sound e hc).cells
  unfold A.build at h
  split at h
  · rename_i cs hcs
    split at h
    · rename_i ho
      obtain ⟨c2, g1, g2⟩ := fill_sound (placeOf P t) parts.toList ps _ cs _ hcs hzr hp
      refine Step.pure hr h (v' := .agg c2) ?_ (.agg _ _ (by simpa using ho) g2 .nil)
      unfold partsKnown at hk
      split at hk
      · rename_i fs hs
        have hm := mapM_places (P := P) e.w fs.toList (by intro f hf; exact Array.all_eq_true'.mp hk f (by simpa using hf))
        have hpl : (fun x => (fs.toList.map fun f => (f.offset, P.cellsOf f.type)).toArray[x]?) = placeOf P t := by
          funext j; simp only [placeOf, hs]; simp
        simp only [Instr.build, zeroValue, typeInfo, Sem.run_bind, run_program, Result.andThen, hi, Sem.run_pure, hiz, run_under hs, Array.mapM_eq_mapM_toList, Sem.run_map, hm]
        rw [hpl, g1]
        rfl
      · rename_i n x hs
        obtain ⟨ix, hix⟩ := Option.isSome_iff_exists.mp hk
        have hpl : (fun j => some (j * ix.size, ix.size)) = placeOf P t := by
          funext j; simp only [placeOf, hs, cellsOf_eq hix]
        simp only [Instr.build, zeroValue, typeInfo, Sem.run_bind, run_program, Result.andThen, hi, Sem.run_pure, hiz, run_under hs, sizeOf_run hix]
        rw [hpl, g1]
        rfl
      · cases hk
    · cases h
  · cases h

/-- A literal slice: elements at their places. -/
def setP (sz : Nat) : List V → List (Nat × V) → Option (List V)
  | l, [] => some l
  | l, (i, v) :: rest => if v.cells.length = sz ∧ i < l.length ∧ v.cells.all V.one then setP sz (l.set i v.er) rest else none
def A.bslice (sz : Nat) (z : V) (len : Nat) (ps : List (Nat × V)) (K : V → Res) : Res :=
  match setP sz (List.replicate len z) ps with
  | some l => if z.cells.length = sz ∧ len * sz ≤ 16777216 ∧ 0 < sz ∧ z.cells.all V.one then K (.lst l 2) else none
  | none => none

theorem er_cells (v : V) : v.er.cells.length = v.cells.length ∧ ((∀ x ∈ v.cells, x.one = true) → ∀ x ∈ v.er.cells, x.one = true) := by
  cases v <;> first | exact ⟨rfl, fun h => h⟩ | exact ⟨by simp [V.er, V.cells], fun h => ones_er0 h⟩ | exact ⟨rfl, by simp [V.er, V.cells, V.one]⟩

theorem flat_set (l : List V) (sz i : Nat) (v : V) (h : ∀ v ∈ l, v.cells.length = sz) (hi : i < l.length) (hv : v.cells.length = sz) : flat (l.set i v) = putL (flat l) (i * sz) v.cells := by
  rw [putL_eq _ _ _ (by
    rw [flat_length l sz h, hv]
    have := Nat.mul_le_mul_right sz (show i + 1 ≤ l.length by omega)
    rw [Nat.succ_mul] at this; omega), hv]
  rw [flat_take l sz h, show i * sz + sz = (i + 1) * sz by rw [Nat.succ_mul], flat_drop l sz h]
  rw [List.set_eq_take_append_cons_drop, if_pos hi, flat_append]
  rw [show flat (v :: l.drop (i + 1)) = v.cells ++ flat (l.drop (i + 1)) from rfl, List.append_assoc]

theorem setP_sound {e : E} (sz : Nat) : ∀ (parts : List (Nat × Value)) (ps : List (Nat × V)) (l l2 : List V) (c : Array Value), setP sz l ps = some l2 → Rs e (flat l) c.toList → (∀ v ∈ l, v.cells.length = sz) → (∀ v ∈ flat l, v.one = true) →
    (All2 (fun (p : Nat × Value) (q : Nat × V) => p.1 = q.1 ∧ Rs e [q.2] [p.2]) parts ps) → ∃ c2, Instr.fill (fun i => some (i * sz, sz)) c parts = some c2 ∧ Rs e (flat l2) c2.toList ∧ (∀ v ∈ l2, v.cells.length = sz) ∧ (∀ v ∈ flat l2, v.one = true) ∧ l2.length = l.length ∧ c2.size = c.size := by
  intro parts
  induction parts with
  | nil =>
    intro ps l l2 c h hc hs ho hp
    cases ps with
    | cons _ _ => exact hp.elim
    | nil =>
    cases h
    exact ⟨c, rfl, hc, hs, ho, rfl, rfl⟩
  | cons p parts ih =>
    intro ps l l2 c h hc hs ho hp
    cases ps with
    | nil => exact hp.elim
    | cons q qs =>
    obtain ⟨h1, h2⟩ := hp
    obtain ⟨i, v'⟩ := p
    obtain ⟨j, v⟩ := q
    obtain ⟨hij, hv⟩ := h1
    simp only at hij hv
    subst hij
    unfold setP at h
    split at h
    · rename_i hh
      obtain ⟨h3, h4, h5⟩ := hh
      have h5' : ∀ x ∈ v.cells, x.one = true := by simpa using h5
      have hve := hv.er
      obtain ⟨er1, er2⟩ := er_cells v
      have hvc := hve.cells
      have hvl : v.er.cells.length = v'.cells.size := by simpa using hvc.length
      have hcl := hc.length
      rw [flat_length l sz hs] at hcl
      simp only [Array.length_toList] at hcl
      have hfl := flat_set l sz i v.er hs h4 (by omega)
      have hle : i * sz + sz ≤ c.size := by
        rw [← hcl]
        have := Nat.mul_le_mul_right sz (show i + 1 ≤ l.length by omega)
        rw [Nat.succ_mul] at this; omega
      have hnew : Rs e (flat (l.set i v.er)) (putA c (i * sz) v'.cells.toList).toList := by rw [hfl, putA_list]; exact Rs.putL _ hc hvc
      obtain ⟨c2, g1, g2, g3, g4, g5, g6⟩ := ih qs _ l2 _ h hnew (by
        intro x hx
        rcases List.mem_or_eq_of_mem_set hx with g | g
        · exact hs x g
        · rw [g]; omega) (by
        intro x hx
        rw [hfl] at hx
        rcases putL_mem _ _ _ x hx with g | g
        · exact ho x g
        · exact er2 h5' x g) h2
      refine ⟨c2, ?_, g2, g3, g4, by rw [g5]; simp, by rw [g6, putA_size]⟩
      unfold Instr.fill
      simp only
      rw [if_neg (by simp; omega)]
      have := foldl_put v'.cells.toList c (i * sz) 0
      simp only [Nat.add_zero, Array.toArray_toList] at this
      rw [← this] at g1
      exact g1
    · cases h

theorem madeL (z : Array Value) (n : Nat) (hz : 0 < z.size) : (madeCells z (n * z.size)).toList = (List.replicate n z.toList).flatten := by
  induction n with
  | zero => simp [madeCells]
  | succ n ih =>
    rw [List.replicate_succ', List.flatten_append, ← ih]
    simp only [List.flatten_cons, List.flatten_nil, List.append_nil]
    apply List.ext_getElem?
    intro i
    rw [List.getElem?_append]
    have hsz : (madeCells z (n * z.size)).toList.length = n * z.size := by simp [madeCells]
    rw [hsz]
    have hsucc : (n + 1) * z.size = n * z.size + z.size := Nat.succ_mul _ _
    simp only [madeCells, Array.toList_map, Array.toList_range, List.getElem?_map]
    by_cases h1 : i < n * z.size
    · rw [if_pos h1, List.getElem?_range (by omega), List.getElem?_range h1]
    · rw [if_neg h1]
      by_cases h2 : i < (n + 1) * z.size
      · rw [List.getElem?_range h2]
        have hm : i % z.size = i - n * z.size := by
          rw [Nat.mod_eq_sub_mul_div]
          have : i / z.size = n := by
            apply Nat.div_eq_of_lt_le
            · rw [Nat.mul_comm]; rw [Nat.mul_comm] at h1; omega
            · omega
          rw [this, Nat.mul_comm]
        have hlt : i - n * z.size < z.size := by omega
        simp only [Option.map_some, hm]
        rw [getElem!_pos z _ hlt]
        simp [hlt]
      · have e1 : (List.range ((n + 1) * z.size))[i]? = none := List.getElem?_eq_none (by simp; omega)
        rw [e1]
        simp only [Option.map_none]
        exact (List.getElem?_eq_none (by simp; omega)).symm

theorem flat_replicate (n : Nat) (z : V) : flat (List.replicate n z) = (List.replicate n z.cells).flatten := by simp [flat, List.flatMap]
theorem Rs.reps {e : E} {vs : List V} {ws : List Value} (h : Rs e vs ws) : ∀ n, Rs e (List.replicate n vs).flatten (List.replicate n ws).flatten
  | 0 => .nil
  | n + 1 => by simp only [List.replicate_succ, List.flatten_cons]; exact Rs.append h (Rs.reps h n)

/-- A literal's row, laid. -/
theorem lay_list {W0 : World} {B : Nat} {e : E} (hr : Rel W0 B e) {l : List V} {sz : Nat} {c : Array Value} {x0 : TypeId} (hsz : ∀ v ∈ l, v.cells.length = sz) (ho : ∀ v ∈ flat l, v.one = true) (hrs : Rs e (flat l) c.toList) :
    Ext e (e.lay (.cells c x0 (0, 0)) c.size) ∧ Rel W0 B (e.lay (.cells c x0 (0, 0)) c.size) ∧ Rs (e.lay (.cells c x0 (0, 0)) c.size) [.lst l 2] [.slice (some ⟨e.w.heap.size, 0, none⟩) l.length l.length] := by
  have X1 := Ext.lay e (.cells c x0 (0, 0)) c.size (hr.frn _ (Nat.le_refl _))
  have R1 := hr.lay c x0 (0, 0) c.size (Nat.le_refl _)
  have hpush : (e.lay (.cells c x0 (0, 0)) c.size).w.heap[e.w.heap.size]? = some (.cells c x0 (0, 0)) := by
    show (e.w.heap.push _)[e.w.heap.size]? = _; rw [Array.getElem?_push, if_pos rfl]
  have hcl := hrs.length
  rw [flat_length l sz hsz] at hcl
  simp only [Array.length_toList] at hcl
  refine ⟨X1, R1, .lst l 2 l.length l.length e.w.heap.size 0 sz c x0 (0, 0) rfl (Nat.le_refl _) hpush hsz ho ?_ ?_ ⟨by omega, fun _ => rfl⟩ (by omega) .nil⟩
  · simp [E.lay, hcl]
  · rw [List.drop_zero, hcl, List.take_of_length_le (by simp)]; exact hrs.mono X1

theorem bslice_sound {P : Program} {W0 : World} {B : Nat} {e : E} {K : V → St → Res} {r : Out × St} {t x0 : TypeId} {len : Nat} {parts : Array (Nat × Value)} {z : V} {ps : List (Nat × V)} (hs : sle P t = some x0) (hz : zeroV P x0 = some z)
    (h : A.bslice (P.cellsOf x0) z len ps (fun v => K v e.st) = some r) (hr : Rel W0 B e) (hp : All2 (fun (p : Nat × Value) (q : Nat × V) => p.1 = q.1 ∧ Rs e [q.2] [p.2]) parts.toList ps) : Step P W0 B e (Instr.buildSlice t len parts) K r := by
  obtain ⟨i, zv, hi, hiz, hc⟩ := zeroV_some hz
  have hzr := (constV_sound e hc).cells
  rw [cellsOf_eq hi] at h
  unfold A.bslice at h
  split at h
  · rename_i l hl
    split at h
    · rename_i hh
      obtain ⟨h1, h2, h3, h4⟩ := hh
      have h4' : ∀ x ∈ z.cells, x.one = true := by simpa using h4
      have hzl : z.cells.length = zv.cells.size := by simpa using hzr.length
      have hrep : Rs e (flat (List.replicate len z)) (madeCells zv.cells (len * i.size)).toList := by
        rw [show i.size = zv.cells.size by omega, madeL _ _ (by omega), flat_replicate]
        exact hzr.reps len
      have hone : ∀ v ∈ flat (List.replicate len z), v.one = true := by
        intro v hv
        obtain ⟨y, hy, hvy⟩ := List.mem_flatMap.mp hv
        rw [(List.mem_replicate.mp hy).2] at hvy
        exact h4' v hvy
      obtain ⟨c2, g1, g2, g3, g4, g5, g6⟩ := setP_sound i.size parts.toList ps _ l _ hl hrep (by
        intro v hv; rw [(List.mem_replicate.mp hv).2]; exact h1) hone hp
      have hll : l.length = len := by rw [g5]; simp
      obtain ⟨q1, q2, q3⟩ := lay_list hr (x0 := x0) g3 g4 g2
      rw [hll] at q3
      refine ⟨_, _, e.lay (.cells c2 x0 (0, 0)) c2.size, h, ?_, q1, q2, q3⟩
      by_cases h0 : len * i.size = 0
      · have : len = 0 := by
          rcases Nat.mul_eq_zero.mp h0 with g | g
          · exact g
          · omega
        subst this
        have g1' : Instr.fill (fun j => some (j * i.size, i.size)) ((Array.range (0 * i.size)).map (#[][· % 0]!)) parts.toList = some c2 := by
          rw [← g1]; simp [madeCells, Array.range_zero']
        simp only [Instr.buildSlice, Sem.run_bind, run_under (sle_some hs), Result.andThen, sizeOf_run hi, Sem.run_ite]
        rw [if_neg (by omega)]
        simp only [Sem.run_pure, Result.andThen, h0, if_true, Sem.run_ite, Sem.run_bind]
        simp only [Nat.zero_mul] at g1'
        rw [show (Array.map (fun x => (#[] : Array Value)[x % (#[] : Array Value).size]!) (Array.range 0)) = Array.map (fun x => (#[] : Array Value)[x % 0]!) (Array.range 0) from rfl, g1']
        simp [newRow, E.lay]
      · have := run_buildSlice (P := P) e.w t x0 len parts c2 i zv (sle_some hs) hi hiz (by omega) h0 g1
        rw [this]; rfl
    · cases h
  · cases h

/-- make([]T, n). -/
def A.mksl (sz bytes : Nat) (z l c : V) (K : V → Res) : Res :=
  match l, c with
  | .int _ n, .int _ m => if n = m ∧ 0 ≤ n ∧ n ≤ 1073741824 ∧ bytes ≤ 65536 ∧ z.cells.length = sz ∧ 0 < sz ∧ z.cells.all V.one then K (.lst (List.replicate n.toNat z) 2) else none
  | _, _ => none
/-- .. whose elements may be written. -/
def A.mkslM (sz bytes : Nat) (z l c : V) (st : St) (K : V → St → Res) : Res :=
  match l, c with
  | .int _ n, .int _ m => if n = m ∧ 0 ≤ n ∧ n ≤ 1073741824 ∧ bytes ≤ 65536 ∧ z.cells.length = sz ∧ 0 < sz ∧ z.cells.all V.one then K (.sl st.n 0 n.toNat sz) (st.new (.cells (flat (List.replicate n.toNat z)))) else none
  | _, _ => none
def bytesOf (P : Program) (t : TypeId) : Nat := P.bytesOf t
theorem bytesOf_eq {P : Program} {t : TypeId} {i : TypeInfo} (h : P.info? t = some i) : P.bytesOf t = i.bytes := by simp [Program.bytesOf, h]

theorem mk_run {P : Program} {w : World} {t x0 : TypeId} {i : TypeInfo} {zv : Value} {n : Int} {k k' : IntKind} (hs : sle P t = some x0) (hi : P.info? x0 = some i) (hiz : i.zero = some zv) (h0 : 0 ≤ n) (h1 : n ≤ 1073741824) (hb : i.bytes ≤ 65536) :
    (Instr.makeSlice t (.int k n) (.int k' n)).run P w = .ok (.slice (some ⟨w.heap.size, 0, none⟩) n.toNat n.toNat) (w.alloc (.cells (madeCells zv.cells (n.toNat * i.size)) x0)) := by
  have hbn : (i.bytes : Int) * n ≤ 281474976710656 := by
    obtain ⟨m, rfl⟩ := Int.eq_ofNat_of_zero_le h0
    have := Nat.mul_le_mul hb (show m ≤ 1073741824 by omega)
    rw [← Int.natCast_mul]; omega
  exact run_make w t x0 i zv (sle_some hs) hi hiz k k' n n h0 (Int.le_refl _) hbn (by omega)

theorem mksl_sound {P : Program} {W0 : World} {B : Nat} {e : E} {K : V → St → Res} {r : Out × St} {t x0 : TypeId} {z l c : V} {l' c' : Value} (hs : sle P t = some x0) (hz : zeroV P x0 = some z)
    (h : A.mksl (P.cellsOf x0) (P.bytesOf x0) z l c (fun v => K v e.st) = some r) (hr : Rel W0 B e) (hl : Rs e [l] [l']) (hc : Rs e [c] [c']) : Step P W0 B e (Instr.makeSlice t l' c') K r := by
  obtain ⟨i, zv, hi, hiz, hcz⟩ := zeroV_some hz
  have hzr := (constV_sound e hcz).cells
  rw [cellsOf_eq hi, bytesOf_eq hi] at h
  unfold A.mksl at h
  split at h
  · rename_i k n k' m
    cases hl with | int _ _ _ =>
    cases hc with | int _ _ _ =>
    split at h
    · rename_i hh
      obtain ⟨rfl, h0, h1, hb, h3, h4, h5⟩ := hh
      have h5' : ∀ x ∈ z.cells, x.one = true := by simpa using h5
      have hzl : z.cells.length = zv.cells.size := by simpa using hzr.length
      have hrep : Rs e (flat (List.replicate n.toNat z)) (madeCells zv.cells (n.toNat * i.size)).toList := by
        rw [show i.size = zv.cells.size by omega, madeL _ _ (by omega), flat_replicate]
        exact hzr.reps _
      have hone : ∀ v ∈ flat (List.replicate n.toNat z), v.one = true := by
        intro v hv
        obtain ⟨y, hy, hvy⟩ := List.mem_flatMap.mp hv
        rw [(List.mem_replicate.mp hy).2] at hvy
        exact h5' v hvy
      obtain ⟨q1, q2, q3⟩ := lay_list hr (sz := i.size) (x0 := x0) (by intro v hv; rw [(List.mem_replicate.mp hv).2]; exact h3) hone hrep
      simp only [List.length_replicate] at q3
      exact ⟨_, _, e.lay (.cells (madeCells zv.cells (n.toNat * i.size)) x0 (0, 0)) (madeCells zv.cells (n.toNat * i.size)).size, h, mk_run hs hi hiz h0 h1 hb, q1, q2, q3⟩
    · cases h
  · cases h

theorem mkslM_sound {P : Program} {W0 : World} {B : Nat} {e : E} {K : V → St → Res} {r : Out × St} {t x0 : TypeId} {z l c : V} {l' c' : Value} (hs : sle P t = some x0) (hz : zeroV P x0 = some z)
    (h : A.mkslM (P.cellsOf x0) (P.bytesOf x0) z l c e.st K = some r) (hr : Rel W0 B e) (hl : Rs e [l] [l']) (hc : Rs e [c] [c']) : Step P W0 B e (Instr.makeSlice t l' c') K r := by
  obtain ⟨i, zv, hi, hiz, hcz⟩ := zeroV_some hz
  have hzr := (constV_sound e hcz).cells
  rw [cellsOf_eq hi, bytesOf_eq hi] at h
  unfold A.mkslM at h
  split at h
  · rename_i k n k' m
    cases hl with | int _ _ _ =>
    cases hc with | int _ _ _ =>
    split at h
    · rename_i hh
      obtain ⟨rfl, h0, h1, hb, h3, h4, h5⟩ := hh
      have h5' : ∀ x ∈ z.cells, x.one = true := by simpa using h5
      have hzl : z.cells.length = zv.cells.size := by simpa using hzr.length
      have hrep : Rs e (flat (List.replicate n.toNat z)) (madeCells zv.cells (n.toNat * i.size)).toList := by
        rw [show i.size = zv.cells.size by omega, madeL _ _ (by omega), flat_replicate]
        exact hzr.reps _
      have hone : ∀ v ∈ flat (List.replicate n.toNat z), v.one = true := by
        intro v hv
        obtain ⟨y, hy, hvy⟩ := List.mem_flatMap.mp hv
        rw [(List.mem_replicate.mp hy).2] at hvy
        exact h5' v hvy
      have hnew : ∀ o', e.st.ob e.st.n = some o' → False := fun o' ho' => by have := (hr.live _ _ ho').1; omega
      have hfl : (flat (List.replicate n.toNat z)).length = (madeCells zv.cells (n.toNat * i.size)).size := by simpa using hrep.length
      have hms : (madeCells zv.cells (n.toNat * i.size)).size = n.toNat * i.size := size_madeCells _ _
      refine ⟨_, _, e.newOb (.cells (flat (List.replicate n.toNat z))) (.cells (madeCells zv.cells (n.toNat * i.size)) x0 (0, 0)), h, mk_run hs hi hiz h0 h1 hb, Ext.newOb e _ _ hnew, hr.newOb _ _ ?_ ?_, ?_⟩
      · intro cs hcs; cases hcs
        refine ⟨fun v hv => oneB_of (hone v hv), _, _, (0, 0), rfl, fun i _ _ => by simp, Nat.le_of_eq hfl, ?_, bldOK_of hone⟩
        rw [List.take_of_length_le (by simp; omega)]; exact hrep
      · intro es he; cases he
      · refine .sl _ _ _ _ _ _ (Nat.lt_succ_self _) (Nat.le_refl _) (fun o ho h0 => ⟨by simp [E.newOb], madeCells zv.cells (n.toNat * i.size), x0, (0, 0), ?_, by omega⟩) .nil
        show (e.w.heap.push _)[if e.st.n = e.st.n then _ else _]? = _
        rw [if_pos rfl, Array.getElem?_push, if_pos rfl]
    · cases h
  · cases h
end Go.Ab
