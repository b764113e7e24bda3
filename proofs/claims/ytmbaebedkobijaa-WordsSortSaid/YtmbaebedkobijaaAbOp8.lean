import Derived.Test.YtmbaebedkobijaaAbOp7
/- Conversions; slices of objects. -/
namespace Go.Ab
open Go.RowKit
set_option linter.unusedVariables false
set_option linter.unusedSimpArgs false

def A.toInt (k : IntKind) (x : V) (K : V → Res) : Res := match x with | .int _ n => K (.int k (k.wrap n)) | _ => none
def A.sameS (x : V) (K : V → Res) : Res := match x with | .str _ => K x | _ => none
def byteL : List V → Option (List UInt8)
  | [] => some []
  | v :: vs => match v, byteL vs with
    | .int .u8 n, some bs => some (UInt8.ofNat n.toNat :: bs)
    | _, _ => none
/-- string(b). -/
def A.toStr (x : V) (st : St) (K : V → Res) : Res :=
  match x with
  | .lst l _ => (match byteL l with | some s => K (.str s) | none => none)
  | .sl id off len sz => (match st.ob id with
    | some (.cells cs) => if sz = 1 ∧ off + len ≤ cs.length then (match byteL ((cs.drop off).take len) with | some s => K (.str s) | none => none) else none
    | _ => none)
  | _ => none
/-- []byte(s). -/
def A.toBytes (x : V) (st : St) (K : V → St → Res) : Res := match x with | .str s => K (.lst (s.map fun b => .int .u8 b.toNat) (st.nt + 3)) (st.newTk 1) | _ => none
def A.toBytesM (x : V) (st : St) (K : V → St → Res) : Res := match x with | .str s => K (.sl st.n 0 s.length 1) (st.new (.cells (s.map fun b => .int .u8 b.toNat))) | _ => none

def intK (P : Program) (t : TypeId) : Option IntKind := match P.underlying t with | some (.int k) => some k | _ => none
theorem intK_some {P : Program} {t : TypeId} {k : IntKind} (h : intK P t = some k) : P.underlying t = some (.int k) := by
  unfold intK at h; split at h
  · cases h; assumption
  · cases h

theorem toInt_sound {P : Program} {W0 : World} {B : Nat} {e : E} {K : V → St → Res} {r : Out × St} {t u : TypeId} {k : IntKind} {x : V} {x' : Value} (ht : known P t = true) (hu : intK P u = some k)
    (h : A.toInt k x (fun v => K v e.st) = some r) (hr : Rel W0 B e) (hx : Rs e [x] [x']) : Step P W0 B e (convert t u x') K r := by
  obtain ⟨d, hd⟩ := known_under ht
  unfold A.toInt at h
  split at h
  · cases hx with | int _ _ _ =>
    exact Step.int hr h (by
      simp only [convert, Sem.run_bind, run_under hd, run_under (intK_some hu), Result.andThen]
      simp [Conv.intToInt])
  · cases h
theorem sameS_sound {P : Program} {W0 : World} {B : Nat} {e : E} {K : V → St → Res} {r : Out × St} {t u : TypeId} {x : V} {x' : Value} (ht : known P t = true) (hu : tk P u = 3)
    (h : A.sameS x (fun v => K v e.st) = some r) (hr : Rel W0 B e) (hx : Rs e [x] [x']) : Step P W0 B e (convert t u x') K r := by
  obtain ⟨d, hd⟩ := known_under ht
  unfold A.sameS at h
  split at h
  · cases hx with | str _ _ =>
    exact Step.str hr h (by
      simp only [convert, Sem.run_bind, run_under hd, run_under (tk_string hu), Result.andThen]
      simp)
  · cases h

theorem byteL_rs {e : E} : ∀ {l : List V} {ws : List Value} {s : List UInt8}, byteL l = some s → Rs e l ws → ∃ ns : List Int, ws = ns.map (Value.int .u8) ∧ ∀ r : ByteArray, ns.foldl (fun r n => r.push (UInt8.ofNat n.toNat)) r = ⟨r.data ++ s.toArray⟩
  | [], ws, s, h, hr => by
    cases hr; cases h
    exact ⟨[], rfl, fun r => by simp⟩
  | v :: l, ws, s, h, hr => by
    unfold byteL at h
    split at h
    · rename_i n bs hbs
      cases h
      cases hr with
      | int _ _ hr' =>
        obtain ⟨ns, rfl, g⟩ := byteL_rs hbs hr'
        refine ⟨n :: ns, rfl, fun r => ?_⟩
        rw [List.foldl_cons, g]
        apply ByteArray.ext
        simp [ByteArray.push]
    · cases h

theorem toStr_sound {P : Program} {W0 : World} {B : Nat} {e : E} {K : V → St → Res} {r : Out × St} {t u x0 : TypeId} {x : V} {x' : Value} (hs : sle P t = some x0) (hk : intK P x0 = some .u8) (hu : tk P u = 3)
    (h : A.toStr x e.st (fun v => K v e.st) = some r) (hr : Rel W0 B e) (hx : Rs e [x] [x']) : Step P W0 B e (convert t u x') K r := by
  unfold A.toStr at h
  have fin : ∀ (a : Addr) (len cap : Nat) (ns : List Int) (s : List UInt8), (loadCells a len).run P e.w = .ok (ns.map (Value.int .u8)).toArray e.w → (∀ r : ByteArray, ns.foldl (fun r n => r.push (UInt8.ofNat n.toNat)) r = ⟨r.data ++ s.toArray⟩) → K (.str s) e.st = some r →
      Step P W0 B e (convert t u (.slice (some a) len cap)) K r := by
    intro a len cap ns s hl hf hK
    refine Step.str hr hK ?_
    rw [run_convert_bytes_string e.w t u x0 _ _ _ (sle_some hs) (intK_some hk) (tk_string hu), run_bytesToString e.w a len cap ns hl, hf]
    simp
  split at h
  · rename_i l tk0
    split at h
    · rename_i s hbl
      cases hx with
      | lst0 _ _ _ =>
        cases hbl
        refine Step.str hr h ?_
        rw [run_convert_bytes_string e.w t u x0 _ _ _ (sle_some hs) (intK_some hk) (tk_string hu)]
        simp [Conv.bytesToString]
        rfl
      | lste _ ad _ _ =>
        cases hbl
        refine Step.str hr h ?_
        rw [run_convert_bytes_string e.w t u x0 _ _ _ (sle_some hs) (intK_some hk) (tk_string hu)]
        simp [Conv.bytesToString, loadCells, loadCellsFrom]
        rfl
      | lst _ _ len cap b o sz c ty2 fz hlen hcap hb hsz ho hf hc hx1 ht1 _ =>
        subst hlen
        have hone : ∀ v ∈ l, v.one = true := by
          clear h hb hsz ho hf hc ht1 hx1 hcap
          induction l generalizing s with
          | nil => simp
          | cons v l ih =>
            unfold byteL at hbl
            split at hbl
            · rename_i n bs hbs
              intro y hy
              rcases List.mem_cons.mp hy with g | g
              · rw [g]; rfl
              · exact ih bs hbs y g
            · cases hbl
        obtain ⟨f1, f2⟩ := flat_ones hone
        rw [f1] at hc
        have hls : l.length * sz = l.length := by
          cases l with
          | nil => simp
          | cons v l => have := hsz v (by simp); have := f2 v (by simp); rw [show sz = 1 by omega]; simp
        rw [hls] at hc hf
        obtain ⟨ns, hns, hfold⟩ := byteL_rs hbl hc
        have hfs := hr.frs b c ty2 fz hb
        have := loadCells_run (P := P) (w := e.w) (n := l.length) hb (show o + l.length ≤ c.size by omega)
        rw [hns] at this
        exact fin _ _ _ ns s this hfold h
    · cases h
  · rename_i id off len sz
    split at h
    · rename_i cs hcs
      split at h
      · rename_i hh
        obtain ⟨rfl, hle⟩ := hh
        split at h
        · rename_i s hbl
          obtain ⟨_, ho, c, ty2, fz, hb, _, hle2, hc, _⟩ := hr.cells id cs hcs
          cases hx with
          | sl _ _ _ _ cap a hn hcap hl2 _ =>
            by_cases h0 : 0 < cap
            · obtain ⟨rfl, _⟩ := hl2 _ hcs h0
              have hc' := (hc.drop off).take len
              rw [List.drop_take, List.take_take, Nat.min_eq_left (by omega)] at hc'
              obtain ⟨ns, hns, hfold⟩ := byteL_rs hbl hc'
              have := loadCells_run (P := P) (w := e.w) (n := len) hb (show off + len ≤ c.size by omega)
              rw [hns] at this
              exact fin _ _ _ ns s this hfold h
            · have hlen : len = 0 := by omega
              subst hlen
              have : s = [] := by
                rw [List.take_zero] at hbl; cases hbl; rfl
              subst this
              exact fin a 0 cap [] [] (by simp [loadCells, loadCellsFrom]) (fun r => by simp) h
        · cases h
      · cases h
    · cases h
  · cases h

theorem bytes_cells (w : World) (x0 : TypeId) (s : List UInt8) : (Lib.bytesCells w x0 ⟨s.toArray⟩).toList.take s.length = s.map (fun b => Value.int .u8 b.toNat) ∧ s.length ≤ (Lib.bytesCells w x0 ⟨s.toArray⟩).size := by
  constructor
  · simp only [Lib.bytesCells, Array.toList_append]
    rw [List.take_append_of_le_length (by simp), List.take_of_length_le (by simp)]
    simp
  · simp [Lib.bytesCells]

theorem bytesWorld_eq (w : World) (x0 : TypeId) (s : ByteArray) : Lib.bytesWorld w x0 s = { w.drew with heap := w.heap.push (.cells (Lib.bytesCells w x0 s) x0 ((Lib.bytesCells w x0 s).size, (Lib.bytesCells w x0 s).size + 1)) } := by
  have h1 : (Lib.bytesWorld w x0 s).heap = w.heap.push (.cells (Lib.bytesCells w x0 s) x0 ((Lib.bytesCells w x0 s).size, (Lib.bytesCells w x0 s).size + 1)) := by
    apply Array.ext_getElem?
    intro j
    by_cases hj : j < w.heap.size
    · rw [Lib.bytesWorld_at_old w x0 s j hj, Array.getElem?_push, if_neg (by omega)]
    · by_cases hj2 : j = w.heap.size
      · subst hj2; rw [Lib.bytesWorld_at_new, Array.getElem?_push, if_pos rfl]
      · rw [Array.getElem?_eq_none (by rw [Lib.bytesWorld_size]; omega), Array.getElem?_eq_none (by simp; omega)]
  rw [← h1]
  simp [Lib.bytesWorld, World.freeze, World.alloc, World.drew, -World.alloc_eq, -World.drew_eq]

theorem toBytesM_sound {P : Program} {W0 : World} {B : Nat} {e : E} {K : V → St → Res} {r : Out × St} {t u x0 : TypeId} {x : V} {x' : Value} (ht : known P t = true) (hs : sle P u = some x0) (hk : intK P x0 = some .u8)
    (h : A.toBytesM x e.st K = some r) (hr : Rel W0 B e) (hx : Rs e [x] [x']) : Step P W0 B e (convert t u x') K r := by
  obtain ⟨d, hd⟩ := known_under ht
  unfold A.toBytesM at h
  split at h
  · rename_i s
    cases hx with
    | str _ _ =>
      have hrun := Lib.run_convert_string_bytes (P := P) e.w t u x0 ⟨s.toArray⟩ hd (sle_some hs) (intK_some hk)
      rw [bytesWorld_eq] at hrun
      obtain ⟨g1, g2⟩ := bytes_cells e.w x0 s
      have hz : (⟨s.toArray⟩ : ByteArray).size = s.length := by show s.toArray.size = s.length; simp
      have hone : ∀ v ∈ (s.map fun b => V.int .u8 b.toNat), v.one = true := by
        intro v hv; obtain ⟨b, _, rfl⟩ := List.mem_map.mp hv; rfl
      have R0 : Rel W0 B e.drew := hr.drew
      have hnew : ∀ o', e.drew.st.ob e.drew.st.n = some o' → False := fun o' ho' => by have := (R0.live _ _ ho').1; omega
      refine ⟨_, .slice (some ⟨e.w.heap.size, 0, none⟩) s.length (grownCap e.w s.length 0 x0), e.drew.newOb (.cells (s.map fun b => .int .u8 b.toNat)) (.cells (Lib.bytesCells e.w x0 ⟨s.toArray⟩) x0 ((Lib.bytesCells e.w x0 ⟨s.toArray⟩).size, (Lib.bytesCells e.w x0 ⟨s.toArray⟩).size + 1)), h, ?_, (Ext.drew e).trans (Ext.newOb _ _ _ hnew), R0.newOb _ _ ?_ ?_, ?_⟩
      · rw [hrun, hz]; rfl
      · intro cs hcs; cases hcs
        refine ⟨fun v hv => oneB_of (hone v hv), _, _, _, rfl, fun i _ hi => by simp only; omega, by simpa using g2, ?_, bldOK_of hone⟩
        rw [List.length_map, g1]; exact (ints_rs e s).mono (Ext.drew e)
      · intro es he; cases he
      · refine .sl _ _ _ _ _ _ (Nat.lt_succ_self _) (by simp only [grownCap, Question.cut]; exact Nat.le_add_right _ _) (fun o ho h0 => ⟨by simp [E.newOb, E.drew], Lib.bytesCells e.w x0 ⟨s.toArray⟩, x0, ((Lib.bytesCells e.w x0 ⟨s.toArray⟩).size, (Lib.bytesCells e.w x0 ⟨s.toArray⟩).size + 1), ?_, ?_⟩) .nil
        · show (e.w.heap.push _)[if e.st.n = e.st.n then _ else _]? = _
          rw [if_pos rfl]
          show (e.w.heap.push _)[e.w.heap.size]? = _
          rw [Array.getElem?_push, if_pos rfl]
        · simp only [Lib.bytesCells, Array.size_append, Array.size_map, Array.size_replicate, hz, Nat.zero_add, Nat.mul_one]
          have : s.length ≤ grownCap e.w s.length 0 x0 := by simp only [grownCap, Question.cut]; exact Nat.le_add_right _ _
          simp; omega
  · cases h

theorem toBytes_sound {P : Program} {W0 : World} {B : Nat} {e : E} {K : V → St → Res} {r : Out × St} {t u x0 : TypeId} {x : V} {x' : Value} (ht : known P t = true) (hs : sle P u = some x0) (hk : intK P x0 = some .u8)
    (h : A.toBytes x e.st K = some r) (hr : Rel W0 B e) (hx : Rs e [x] [x']) : Step P W0 B e (convert t u x') K r := by
  obtain ⟨d, hd⟩ := known_under ht
  unfold A.toBytes at h
  split at h
  · rename_i s
    cases hx with
    | str _ _ =>
      have hrun := Lib.run_convert_string_bytes (P := P) e.w t u x0 ⟨s.toArray⟩ hd (sle_some hs) (intK_some hk)
      rw [bytesWorld_eq] at hrun
      obtain ⟨g1, g2⟩ := bytes_cells e.w x0 s
      have hz : (⟨s.toArray⟩ : ByteArray).size = s.length := by show s.toArray.size = s.length; simp
      have hone : ∀ v ∈ (s.map fun b => V.int .u8 b.toNat), v.one = true := by
        intro v hv; obtain ⟨b, _, rfl⟩ := List.mem_map.mp hv; rfl
      obtain ⟨f1, f2⟩ := flat_ones hone
      have R0 : Rel W0 B e.drew := hr.drew
      have hcap : s.length ≤ grownCap e.w s.length 0 x0 := by simp only [grownCap, Question.cut]; exact Nat.le_add_right _ _
      have hbs : (Lib.bytesCells e.w x0 ⟨s.toArray⟩).size = grownCap e.w s.length 0 x0 := by
        simp only [Lib.bytesCells, Array.size_append, Array.size_map, Array.size_replicate, hz]
        simp; omega
      obtain ⟨e', q1, q2, q3, q4, q5⟩ := app_new R0 (l := s.map fun b => V.int .u8 b.toNat) (sz := 1) (len := s.length) (cap := grownCap e.w s.length 0 x0) (c := Lib.bytesCells e.w x0 ⟨s.toArray⟩) (x0 := x0) (fz := ((Lib.bytesCells e.w x0 ⟨s.toArray⟩).size, (Lib.bytesCells e.w x0 ⟨s.toArray⟩).size + 1)) (fun i _ hi => by simp only; omega) (by simp) hcap f2 (by rw [f1]; exact hone) (by omega) (by
        rw [f1, Nat.mul_one, g1]; exact (ints_rs e s).mono (Ext.drew e))
      refine ⟨_, _, e', ?_, ?_, (Ext.drew e).trans q3, q4, q5⟩
      · rw [q1]; exact h
      · rw [hrun, q2, hz]; rfl
  · cases h

/-- arr[a:b]. -/
theorem sliceA_sound {P : Program} {W0 : World} {B : Nat} {e : E} {K : V → St → Res} {r : Out × St} {t x0 : TypeId} {n : Nat} {x : V} {x' : Value} {lo hi : Option V} {lo' hi' : Option Value} (hs : arr P t = some (n, x0)) (hi0 : ∃ i, P.info? x0 = some i)
    (h : A.sliceA n (P.cellsOf x0) x lo hi e.st (fun v => K v e.st) = some r) (hr : Rel W0 B e) (hx : Rs e [x] [x']) (hl : Rso e lo lo') (hh : Rso e hi hi') : Step P W0 B e (Instr.sliceAt t x' lo' hi' none) K r := by
  obtain ⟨inf, hi0⟩ := hi0
  rw [cellsOf_eq hi0] at h
  have hu := run_under (P := P) (arr_some hs) e.w
  unfold A.sliceA at h
  split at h
  · rename_i id off
    split at h
    · rename_i cs a b hcs h1 h2
      split at h
      · rename_i hh2
        obtain ⟨g1, g2, g3⟩ := hh2
        obtain ⟨_, ho, c, ty2, fz, hb, _, hle, hc, _⟩ := hr.cells id cs hcs
        cases hx with
        | ptr _ _ ad hn hl2 _ =>
          have had := hl2 _ hcs
          subst had
          have hbr := bounds_run (P := P) (sl := false) (cap := n) h1 h2 hl hh g1 g2
          have hmul : (n - a) * inf.size + a * inf.size = n * inf.size := by rw [← Nat.add_mul, Nat.sub_add_cancel (by omega)]
          by_cases hac : n = a
          · refine Step.pure hr h (v' := .slice (some ⟨e.σ id, off, none⟩) (b - a) (n - a)) ?_ (.sl _ _ _ _ _ _ hn (by omega) (fun o ho h0 => by omega) .nil)
            simp only [Instr.sliceAt, hu, Sem.run_bind, Result.andThen, Instr.sureAddr, Sem.run_pure, hbr, sizeOf_run hi0, if_pos hac]
          · refine Step.pure hr h (v' := .slice (some ⟨e.σ id, off + a * inf.size, none⟩) (b - a) (n - a)) ?_ (.sl _ _ _ _ _ _ hn (by omega) (fun o ho h0 => ⟨rfl, c, ty2, fz, hb, by omega⟩) .nil)
            simp only [Instr.sliceAt, hu, Sem.run_bind, Result.andThen, Instr.sureAddr, Sem.run_pure, hbr, sizeOf_run hi0, if_neg hac, add_plain]
      · cases h
    · cases h
  · cases h

def A.mkmap (st : St) (K : V → St → Res) : Res := K (.map st.n) (st.new (.map []))
theorem mkmap_sound {P : Program} {W0 : World} {B : Nat} {e : E} {K : V → St → Res} {r : Out × St} {t : TypeId}
    (h : A.mkmap e.st K = some r) (hr : Rel W0 B e) : Step P W0 B e (Instr.makeMap t none) K r := by
  have hnew : ∀ o', e.st.ob e.st.n = some o' → False := fun o' ho' => by have := (hr.live _ _ ho').1; omega
  refine ⟨_, .map (some e.w.heap.size), e.newOb (.map []) (.map #[] 0), h, ?_, Ext.newOb e _ _ hnew, hr.newOb _ _ ?_ ?_, .map _ _ (Nat.lt_succ_self _) (fun o ho => by simp [E.newOb]) .nil⟩
  · simp [Instr.makeMap, E.newOb]
  · intro cs he; cases he
  · intro es he; cases he
    exact ⟨#[], 0, rfl, .nil, .nil⟩
end Go.Ab
