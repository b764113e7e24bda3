import Derived.Test.YtmbaebedkobijaaAbOp2
import Derived.Laws.Append
/- Objects: made, read, written. -/
namespace Go.Ab
open Go.RowKit
set_option linter.unusedVariables false
set_option linter.unusedSimpArgs false

theorem St.new_ob (st : St) (o : Ob) (i : Nat) : (st.new o).ob i = if i = st.n then some o else st.ob i := rfl
theorem St.put_ob (st : St) (id : Nat) (o : Ob) (i : Nat) : (st.put id o).ob i = if i = id then some o else st.ob i := rfl

def A.box (v : V) (st : St) (K : V → St → Res) : Res := if v.cells.all V.one then K (.ptr st.n 0) (st.new (.cells v.cells)) else none
theorem newVar_sound {P : Program} {W0 : World} {B : Nat} {e : E} {K : V → St → Res} {r : Out × St} {t : TypeId} {v : V} {v' : Value}
    (h : A.box v e.st K = some r) (hr : Rel W0 B e) (hv : Rs e [v] [v']) : Step P W0 B e (do Pure.pure (.pointer (some (← newVar t v')))) K r := by
  unfold A.box at h
  split at h
  · rename_i ho
    have ho' : ∀ x ∈ v.cells, x.one = true := by simpa using ho
    have hc := hv.cells
    have hl : v.cells.length = v'.cells.size := by simpa using hc.length
    have hnew : ∀ o', e.st.ob e.st.n = some o' → False := fun o' ho' => by have := (hr.live _ _ ho').1; omega
    refine ⟨_, .pointer (some ⟨e.w.heap.size, 0, none⟩), e.newOb (.cells v.cells) (.cells v'.cells t (0, 0)), h, ?_, Ext.newOb e _ _ hnew, hr.newOb _ _ ?_ ?_, ?_⟩
    · simp [newVar, newRow, E.newOb]
    · intro cs hcs; cases hcs
      refine ⟨fun x hx => oneB_of (ho' x hx), v'.cells, t, (0, 0), rfl, fun i _ _ => by simp, by omega, ?_, bldOK_of ho'⟩
      rw [hl, List.take_of_length_le (by simp)]; exact hc
    · intro es hes; cases hes
    · exact .ptr _ _ _ (Nat.lt_succ_self _) (fun o ho => by simp [E.newOb]) .nil
  · cases h
theorem box_sound {P : Program} {W0 : World} {B : Nat} {e : E} {K : V → St → Res} {r : Out × St} {t : TypeId} {v : V} {v' : Value}
    (h : A.box v e.st K = some r) (hr : Rel W0 B e) (hv : Rs e [v] [v']) : Step P W0 B e (Instr.box t v') K r := newVar_sound h hr hv

def zeroV (P : Program) (t : TypeId) : Option V := match P.info? t with | some i => (match i.zero with | some z => constV z | none => none) | none => none
theorem zeroV_some {P : Program} {t : TypeId} {v : V} (h : zeroV P t = some v) : ∃ i z, P.info? t = some i ∧ i.zero = some z ∧ constV z = some v := by
  unfold zeroV at h
  split at h
  · split at h
    · exact ⟨_, _, ‹_›, ‹_›, h⟩
    · cases h
  · cases h
theorem alloc_sound {P : Program} {W0 : World} {B : Nat} {e : E} {K : V → St → Res} {r : Out × St} {t : TypeId} {v : V} {old : Value} (hz : zeroV P t = some v)
    (h : A.box v e.st K = some r) (hr : Rel W0 B e) : Step P W0 B e (Instr.alloc t true old) K r := by
  obtain ⟨i, z, hi, hiz, hc⟩ := zeroV_some hz
  obtain ⟨v1, v2, e', g1, g2, g3, g4, g5⟩ := newVar_sound (P := P) (t := t) h hr (constV_sound e hc)
  exact ⟨v1, v2, e', g1, by simpa [Instr.alloc, zeroValue, typeInfo, hi, hiz] using g2, g3, g4, g5⟩

/-- Cells of a block, one behind the other. -/
theorem cell_of {w : World} {b : Nat} {c : Array Value} {ty : TypeId} {fz : Nat × Nat} (hb : w.heap[b]? = some (.cells c ty fz)) (o : Nat) : w.cell? ⟨b, o, none⟩ = c[o]? := by
  simp [World.cell?, hb]
theorem loadCells_run {P : Program} {w : World} {b o n : Nat} {c : Array Value} {ty : TypeId} {fz : Nat × Nat} (hb : w.heap[b]? = some (.cells c ty fz)) (hn : o + n ≤ c.size) :
    (loadCells ⟨b, o, none⟩ n).run P w = .ok ((c.toList.drop o).take n).toArray w := by
  have hl : ((c.toList.drop o).take n).length = n := by simp; omega
  have := run_loadCells_list (P := P) (w := w) ⟨b, o, none⟩ ((c.toList.drop o).take n) (fun j v hj => by
    rw [add_plain, cell_of hb]
    rw [List.getElem?_take] at hj
    split at hj
    · simpa using hj
    · cases hj)
  rw [hl] at this; exact this

def A.load (ag : Bool) (n : Nat) (p : V) (st : St) (K : V → St → Res) : Res :=
  match p with
  | .ptr id off => (match st.ob id with | some (.cells cs) => cond (ag && !cs.all V.one) none (Apart ag n off cs (fun v => K v st)) | _ => none)
  | .lptr cs => Apart ag n 0 cs (fun v => K v st)
  | _ => none

/-- A variable is read out of cells. -/
theorem loadVar_part {P : Program} {e : E} {t : TypeId} {off b o : Nat} {cs : List V} {c : Array Value} {ty : TypeId} {fz : Nat × Nat} {K : V → Res} {r : Out × St} (hk : known P t = true) (h : Apart (isAg P t) (P.cellsOf t) off cs K = some r)
    (hb : e.w.heap[b]? = some (.cells c ty fz)) (ho : isAg P t = true → ∀ v ∈ cs, v.one = true) (hle : o + cs.length ≤ c.size) (hc : Rs e cs ((c.toList.drop o).take cs.length)) :
    ∃ v v', K v = some r ∧ (loadVar t ⟨b, o + off, none⟩).run P e.w = .ok v' e.w ∧ Rs e [v] [v'] := by
  obtain ⟨d, hd⟩ := known_under hk
  obtain ⟨i, hi⟩ := info_of_under hd
  have hrun := isAgg_run P t e.w ⟨d, hd⟩
  unfold Apart at h
  split at h
  · rename_i hag
    rw [hag] at hrun
    split at h
    · rename_i hl
      rw [cellsOf_eq hi] at h hl
      refine ⟨_, .agg ((c.toList.drop (o + off)).take i.size).toArray, h, ?_, .agg _ _ (fun v hv => ho (by assumption) v (List.mem_of_mem_drop (List.mem_of_mem_take hv))) ?_ .nil⟩
      · simp [loadVar, hrun, sizeOf_run hi, loadCells_run (P := P) (n := i.size) hb (show o + off + i.size ≤ c.size by omega)]
      · have := (hc.drop off).take i.size
        rw [List.drop_take, List.drop_drop, List.take_take, Nat.min_eq_left (by omega)] at this
        exact this
    · cases h
  · rename_i hag
    have hag' : isAg P t = false := by simpa using hag
    rw [hag'] at hrun
    split at h
    · rename_i v hv
      obtain ⟨w, hw, hrs⟩ := hc.get off hv
      refine ⟨v, w, h, ?_, hrs⟩
      have hlt : off < cs.length := (List.getElem?_eq_some_iff.mp hv).1
      have : c[o + off]? = some w := by
        rw [List.getElem?_take, if_pos hlt, List.getElem?_drop] at hw
        simpa using hw
      simp [loadVar, hrun, cell_of hb, this]
    · cases h

theorem load_pure {P : Program} {W0 : World} {B : Nat} {e : E} {K : V → St → Res} {r : Out × St} {t : TypeId} {p : V} {p' : Value} (hk : known P t = true)
    (h : A.load (isAg P t) (P.cellsOf t) p e.st K = some r) (hr : Rel W0 B e) (hp : Rs e [p] [p']) : ∃ v v', K v e.st = some r ∧ (Instr.loadAt t p').run P e.w = .ok v' e.w ∧ Rs e [v] [v'] := by
  unfold A.load at h
  split at h
  · rename_i id off
    split at h
    · rename_i cs hcs
      cases hp with | ptr _ _ a hn hl _ =>
      obtain ⟨_, ho, c, ty, fz, hb, _, hle, hc, _⟩ := hr.cells id cs hcs
      have hag : isAg P t = true → ∀ v ∈ cs, v.one = true := by
        intro ha
        rw [ha] at h
        cases hall : cs.all V.one with
        | true => simpa using hall
        | false => rw [hall] at h; cases h
      have h : Apart (isAg P t) (P.cellsOf t) off cs (fun v => K v e.st) = some r := by
        cases hcn : (isAg P t && !cs.all V.one) with
        | true => rw [hcn] at h; cases h
        | false => rw [hcn] at h; exact h
      obtain ⟨v, v', g1, g2, g3⟩ := loadVar_part (P := P) (o := 0) hk h hb hag (by omega) (by simpa using hc)
      have ha := hl _ hcs
      subst ha
      rw [Nat.zero_add] at g2
      exact ⟨v, v', g1, by simp [Instr.loadAt, Instr.sureAddr, g2], g3⟩
    · cases h
  · rename_i cs
    cases hp with | lptr _ b o c ty fz hb hf ho hc _ =>
    have := hr.frs b c ty fz hb
    obtain ⟨v, v', g1, g2, g3⟩ := loadVar_part (P := P) hk h hb (fun _ => ho) (by omega) hc
    exact ⟨v, v', g1, by simp [Instr.loadAt, Instr.sureAddr]; simpa using g2, g3⟩
  · cases h

theorem load_sound {P : Program} {W0 : World} {B : Nat} {e : E} {K : V → St → Res} {r : Out × St} {t : TypeId} {p : V} {p' : Value} (hk : known P t = true)
    (h : A.load (isAg P t) (P.cellsOf t) p e.st K = some r) (hr : Rel W0 B e) (hp : Rs e [p] [p']) : Step P W0 B e (Instr.loadAt t p') K r := by
  obtain ⟨v, v', g1, g2, g3⟩ := load_pure (P := P) hk h hr hp
  exact Step.pure hr g1 g2 g3

/-- A run of cells is written. -/
def putL {α : Type} : List α → Nat → List α → List α
  | cs, _, [] => cs
  | cs, o, v :: vs => putL (cs.set o v) (o + 1) vs
theorem putL_length {α : Type} : ∀ (vs cs : List α) (o : Nat), (putL cs o vs).length = cs.length
  | [], cs, o => rfl
  | v :: vs, cs, o => by simp [putL, putL_length vs]
theorem putL_take {α : Type} : ∀ (vs cs : List α) (o n : Nat), (putL cs o vs).take n = putL (cs.take n) o vs
  | [], cs, o, n => rfl
  | v :: vs, cs, o, n => by simp [putL, putL_take vs, List.take_set]
theorem putL_get {α : Type} : ∀ (vs cs : List α) (o i : Nat), i < o → (putL cs o vs)[i]? = cs[i]?
  | [], cs, o, i, _ => rfl
  | v :: vs, cs, o, i, h => by
    simp only [putL]
    rw [putL_get vs _ _ _ (by omega), List.getElem?_set_ne (by omega)]
theorem putL_eq {α : Type} : ∀ (vs cs : List α) (o : Nat), o + vs.length ≤ cs.length → putL cs o vs = cs.take o ++ vs ++ cs.drop (o + vs.length)
  | [], cs, o, h => by simp [putL]
  | v :: vs, cs, o, h => by
    simp only [List.length_cons] at h
    rw [putL, putL_eq vs _ _ (by simp; omega)]
    apply List.ext_getElem?
    intro i
    simp only [List.getElem?_append, List.length_append, List.length_take, List.length_set, List.length_cons, List.getElem?_take, List.getElem?_drop, List.getElem?_set]
    by_cases h1 : i < o
    · have h2 : i < min (o + 1) cs.length := by omega
      have h3 : i < min o cs.length := by omega
      have h4 : i < min (o + 1) cs.length + vs.length := by omega
      have h5 : i < min o cs.length + (vs.length + 1) := by omega
      simp [h2, h3, h4, h5, h1, show i < o + 1 by omega, show ¬ o = i by omega]
    · by_cases h2 : i = o
      · subst h2
        have h3 : i < min (i + 1) cs.length := by omega
        have h4 : ¬ i < min i cs.length := by omega
        have h5 : i < min (i + 1) cs.length + vs.length := by omega
        have h6 : i < min i cs.length + (vs.length + 1) := by omega
        simp [h3, h4, h5, h6, show i < cs.length by omega, show i - min i cs.length = 0 by omega]
      · have h3 : ¬ i < min (o + 1) cs.length := by omega
        have h4 : ¬ i < min o cs.length := by omega
        have h5 : (i < min (o + 1) cs.length + vs.length) = (i < min o cs.length + (vs.length + 1)) := by
          apply propext; omega
        have h6 : i - min o cs.length = (i - min (o + 1) cs.length) + 1 := by omega
        have h7 : ¬ o = o + 1 + vs.length + (i - (min (o + 1) cs.length + vs.length)) := by omega
        simp only [h3, h4, h5, h6, h7, if_false, List.getElem?_cons_succ]
        rw [show o + 1 + vs.length + (i - (min (o + 1) cs.length + vs.length)) = o + (vs.length + 1) + (i - (min o cs.length + (vs.length + 1))) by omega]
theorem Rs.putL {e : E} : ∀ {vs : List V} {ws : List Value} {cs : List V} {ds : List Value} (o : Nat), Rs e cs ds → Rs e vs ws → Rs e (putL cs o vs) (Go.Ab.putL ds o ws)
  | [], [], _, _, _, h, _ => h
  | [], _ :: _, _, _, _, _, k => by cases k
  | _ :: _, [], _, _, _, _, k => by cases k
  | v :: vs, w :: ws, cs, ds, o, h, k => Rs.putL (o + 1) (h.set o k.both.1) k.both.2
theorem putL_mem {α : Type} : ∀ (vs cs : List α) (o : Nat) (x : α), x ∈ putL cs o vs → x ∈ cs ∨ x ∈ vs
  | [], cs, o, x, h => .inl h
  | v :: vs, cs, o, x, h => by
    rcases putL_mem vs _ _ x h with g | g
    · rcases List.mem_or_eq_of_mem_set g with q | q
      · exact .inl q
      · exact .inr (by simp [q])
    · exact .inr (List.mem_cons_of_mem _ g)

def putA : Array Value → Nat → List Value → Array Value
  | c, _, [] => c
  | c, o, v :: vs => putA (c.setIfInBounds o v) (o + 1) vs
theorem putA_list : ∀ (vs : List Value) (c : Array Value) (o : Nat), (putA c o vs).toList = putL c.toList o vs
  | [], c, o => rfl
  | v :: vs, c, o => by simp [putA, putL, putA_list vs]
theorem putA_size (vs : List Value) (c : Array Value) (o : Nat) : (putA c o vs).size = c.size := by
  rw [← Array.length_toList, putA_list, putL_length, Array.length_toList]
/-- The heap where cells of a block are written. -/
def setBlk (w : World) (b : Nat) (x : Obj) : World := { w with heap := w.heap.setIfInBounds b x }
theorem storeCells_run {P : Program} : ∀ (vs : List Value) (w : World) (b o i : Nat) (c : Array Value) (ty : TypeId) (fz : Nat × Nat), w.heap[b]? = some (.cells c ty fz) → unfz c fz (o + i) → o + i + vs.length ≤ c.size → (∀ v ∈ vs, v.oneCell' = true) →
    (storeCells ⟨b, o, none⟩ vs i).run P w = .ok () (setBlk w b (.cells (putA c (o + i) vs) ty fz))
  | [], w, b, o, i, c, ty, fz, hb, hu, hl, hv => by
    have : setBlk w b (.cells c ty fz) = w := by
      obtain ⟨h1, h2⟩ := Array.getElem?_eq_some_iff.mp hb
      simp only [setBlk]
      congr 1
      apply Array.ext
      · simp
      · intro j h3 h4
        by_cases hj : b = j
        · subst hj; rw [Array.getElem_setIfInBounds_self]; exact h2.symm
        · rw [Array.getElem_setIfInBounds_ne _ hj]
    simp [storeCells, putA, this]
  | v :: vs, w, b, o, i, c, ty, fz, hb, hu, hl, hv => by
    simp only [List.length_cons] at hl
    have hcell : w.cell? ⟨b, o + i, none⟩ = some c[o + i] := by rw [cell_of hb]; exact Array.getElem?_eq_getElem (by omega)
    have hfz : w.frozen? ⟨b, o + i, none⟩ = false := by
      simp only [World.frozen?, hb]
      have := hu (o + i) (Nat.le_refl _) (by omega)
      simpa using this
    have hst : (store ((⟨b, o, none⟩ : Addr).add i) v).run P w = .ok () (w.setCell ⟨b, o + i, none⟩ v) := by
      rw [add_plain, run_store P w _ v _ (hv v (by simp)), hcell]
      simp only [hfz]; rfl
    have hset : w.setCell ⟨b, o + i, none⟩ v = setBlk w b (.cells (c.setIfInBounds (o + i) v) ty fz) := by
      obtain ⟨h1, h2⟩ := Array.getElem?_eq_some_iff.mp hb
      simp only [World.setCell, setBlk]
      congr 1
      apply Array.ext
      · simp
      · intro j h3 h4
        by_cases hj : b = j
        · subst hj; simp [Array.getElem_modify, h2]
        · rw [Array.getElem_setIfInBounds_ne (by simpa using h3) hj]; simp [Array.getElem_modify, hj]
    have hb2 : (setBlk w b (.cells (c.setIfInBounds (o + i) v) ty fz)).heap[b]? = some (.cells (c.setIfInBounds (o + i) v) ty fz) := by
      have h1 := (Array.getElem?_eq_some_iff.mp hb).1
      simp [setBlk, h1]
    have ih := storeCells_run (P := P) vs (setBlk w b (.cells (c.setIfInBounds (o + i) v) ty fz)) b o (i + 1) (c.setIfInBounds (o + i) v) ty fz hb2 (fun j h1 h2 => hu j (by omega) (by simpa using h2)) (by simp; omega) (fun x hx => hv x (List.mem_cons_of_mem _ hx))
    simp only [storeCells, Sem.run_bind, hst, hset, Result.andThen, ih]
    simp [setBlk, putA, Nat.add_assoc]

/-- An object is other, and its block. -/
def E.upd (e : E) (id : Nat) (o : Ob) (x : Obj) : E := { e with st := e.st.put id o, w := setBlk e.w (e.σ id) x }
theorem setBlk_here {w : World} {b : Nat} {x y : Obj} (h : w.heap[b]? = some y) : (setBlk w b x).heap[b]? = some x := by
  have := (Array.getElem?_eq_some_iff.mp h).1
  simp [setBlk, this]
theorem setBlk_other {w : World} {b k : Nat} {x : Obj} (h : k ≠ b) : (setBlk w b x).heap[k]? = w.heap[k]? := by
  simp only [setBlk]; rw [Array.getElem?_setIfInBounds_ne (Ne.symm h)]
theorem setBlk_size (w : World) (b : Nat) (x : Obj) : (setBlk w b x).heap.size = w.heap.size := by simp [setBlk]

theorem Ext.upd {e : E} {id : Nat} {o : Ob} {x y : Obj} (hl : ∃ o', e.st.ob id = some o') (hy : e.w.heap[e.σ id]? = some y) (h0 : e.fr (e.σ id) = 0)
    (hs : ∀ c ty fz, y = .cells c ty fz → ∃ c' fz', x = .cells c' ty fz' ∧ c'.size = c.size) : Ext e (e.upd id o x) := by
  refine ⟨Nat.le_refl _, Nat.le_refl _, fun _ _ => rfl, fun i hi o' ho' => ?_, fun _ _ => rfl, fun _ _ _ h => h, fun _ => Nat.le_refl _, fun b c ty fz hb => ?_⟩
  · simp only [E.upd, St.put] at ho'
    split at ho'
    · rename_i hi'; subst hi'; exact hl
    · exact ⟨o', ho'⟩
  · by_cases hbe : b = e.σ id
    · subst hbe
      rw [hy] at hb
      obtain ⟨c', fz', hx, hsz⟩ := hs c ty fz (Option.some.inj hb)
      refine ⟨c', fz', ?_, hsz, fun i hi => by rw [h0] at hi; omega⟩
      simp only [E.upd]; rw [setBlk_here hy, hx]
    · exact ⟨c, fz, by simp only [E.upd]; rw [setBlk_other hbe]; exact hb, rfl, fun _ _ => rfl⟩

theorem Rel.upd {W0 : World} {B : Nat} {e : E} (h : Rel W0 B e) {id : Nat} {o : Ob} {x y : Obj} (hl : ∃ o', e.st.ob id = some o') (hy : e.w.heap[e.σ id]? = some y)
    (hs : ∀ c ty fz, y = .cells c ty fz → ∃ c' fz', x = .cells c' ty fz' ∧ c'.size = c.size) (hB : B ≤ e.σ id)
    (hc : ∀ cs, o = .cells cs → (∀ v ∈ cs, v.oneB = true) ∧ ∃ c ty fz, x = .cells c ty fz ∧ unfz c fz 0 ∧ cs.length ≤ c.size ∧ Rs e cs (c.toList.take cs.length) ∧ BldOK (e.σ id) cs c ty)
    (hm : ∀ es, o = .map es → ∃ ents clock, x = .map ents clock ∧ Rs e (es.map (·.1)) (ents.toList.map (·.key)) ∧ Rs e (es.map (·.2)) (ents.toList.map (·.val))) : Rel W0 B (e.upd id o x) := by
  obtain ⟨o0, ho0⟩ := hl
  have h0 := (h.live id o0 ho0).2
  have X : Ext e (e.upd id o x) := Ext.upd ⟨o0, ho0⟩ hy h0 hs
  have hobj : ∀ j o', (e.upd id o x).st.ob j = some o' → (j = id ∧ o' = o) ∨ (j ≠ id ∧ e.st.ob j = some o') := by
    intro j o' ho'
    simp only [E.upd, St.put] at ho'
    by_cases hj : j = id
    · rw [if_pos hj] at ho'; exact .inl ⟨hj, (Option.some.inj ho').symm⟩
    · rw [if_neg hj] at ho'; exact .inr ⟨hj, ho'⟩
  have hoth : ∀ j o', j ≠ id → e.st.ob j = some o' → e.σ j ≠ e.σ id := fun j o' hj ho' he => hj (h.inj j id o' o0 ho' ho0 he)
  refine ⟨⟨h.below.os, h.below.tape, h.below.output, by simp only [E.upd, setBlk_size]; exact h.below.size, fun k hk => ?_⟩, h.hB, ?_, ?_, ?_, ?_, h.tkn, ?_, h.tinj, ?_, ?_, ?_⟩
  · simp only [E.upd]; rw [setBlk_other (by omega)]; exact h.below.block k hk
  · intro j cs ho
    rcases hobj j _ ho with ⟨rfl, he⟩ | ⟨hj, ho'⟩
    · obtain ⟨g1, c, ty, fz, rfl, g2, g3, g4, g5⟩ := hc cs he.symm
      exact ⟨hB, g1, c, ty, fz, setBlk_here hy, g2, g3, g4.mono X, g5⟩
    · obtain ⟨a, b, c, ty, fz, d, f, g, k, kb⟩ := h.cells j cs ho'
      exact ⟨a, b, c, ty, fz, (setBlk_other (hoth j _ hj ho')).trans d, f, g, k.mono X, kb⟩
  · intro j es ho
    rcases hobj j _ ho with ⟨rfl, he⟩ | ⟨hj, ho'⟩
    · obtain ⟨ents, clock, rfl, g2, g3⟩ := hm es he.symm
      exact ⟨hB, ents, clock, setBlk_here hy, g2.mono X, g3.mono X⟩
    · obtain ⟨a, ents, clock, b, c, d⟩ := h.maps j es ho'
      exact ⟨a, ents, clock, (setBlk_other (hoth j _ hj ho')).trans b, c.mono X, d.mono X⟩
  · intro j o' ho
    rcases hobj j _ ho with ⟨rfl, he⟩ | ⟨hj, ho'⟩
    · exact h.live j o0 ho0
    · exact h.live j _ ho'
  · intro i j o1 o2 h1 h2 hs
    have q : ∀ k o', (e.upd id o x).st.ob k = some o' → ∃ o2, e.st.ob k = some o2 := by
      intro k o' ho'
      rcases hobj k _ ho' with ⟨rfl, _⟩ | ⟨_, g⟩
      · exact ⟨o0, ho0⟩
      · exact ⟨o', g⟩
    obtain ⟨p1, q1⟩ := q i o1 h1
    obtain ⟨p2, q2⟩ := q j o2 h2
    exact h.inj i j p1 p2 q1 q2 hs
  · intro t s b k ht hτ
    obtain ⟨a, b', c, ty, fz, d, f⟩ := h.toks t s b k ht hτ
    exact ⟨a, b', c, ty, fz, (setBlk_other (Ne.symm (h.tob t s b k id o0 ht hτ ho0))).trans d, f⟩
  · intro t s b k j o' ht hτ ho
    rcases hobj j _ ho with ⟨rfl, _⟩ | ⟨hj, ho'⟩
    · exact h.tob t s b k j o0 ht hτ ho0
    · exact h.tob t s b k j o' ht hτ ho'
  · intro b c ty fz hb
    by_cases hbe : b = e.σ id
    · subst hbe; show e.fr _ ≤ _; omega
    · simp only [E.upd] at hb; rw [setBlk_other hbe] at hb; exact h.frs b c ty fz hb
  · intro b hb
    simp only [E.upd, setBlk_size] at hb
    exact h.frn b hb

def A.store (n : Nat) (p v : V) (st : St) (K : St → Res) : Res :=
  match p with
  | .ptr id off => (match st.ob id with
    | some (.cells cs) => if v.cells.length = n ∧ off + n ≤ cs.length ∧ v.cells.all V.one then K (st.put id (.cells (putL cs off v.cells))) else none
    | _ => none)
  | _ => none

/-- An operation without a value. -/
def StepU (P : Program) (W0 : World) (B : Nat) (e : E) (s : Sem Unit) (K : St → Res) (r : Out × St) : Prop :=
  ∃ e', K e'.st = some r ∧ s.run P e.w = .ok () e'.w ∧ Ext e e' ∧ Rel W0 B e'

theorem putA_head : ∀ (vs : List Value) (c : Array Value) (o : Nat), 0 < o → (putA c o vs)[0]? = c[0]?
  | [], c, o, _ => rfl
  | v :: vs, c, o, h => by
    unfold putA
    rw [putA_head vs _ (o + 1) (by omega), Array.getElem?_setIfInBounds, if_neg (by omega)]
theorem bldOK_put {b off : Nat} {cs vs : List V} {c : Array Value} {ty : TypeId} {ws : List Value} (h : BldOK b cs c ty) (hv : ∀ x ∈ vs, x.one = true) (hl : vs.length = ws.length) : BldOK b (putL cs off vs) (putA c off ws) ty := by
  intro k x hx
  have h0 : (putL cs off vs)[0]? = some (.bld k) := by rw [hx]; rfl
  have old : (∃ y, cs = .bld k :: y) → 0 < off ∨ ws = [] → ty = k ∧ (putA c off ws).size = 2 ∧ ((putA c off ws)[0]? = some (.pointer none) ∨ (putA c off ws)[0]? = some (.pointer (some ⟨b, 0, none⟩))) := by
    rintro ⟨y, hy⟩ ho
    obtain ⟨a1, a2, a3⟩ := h k y hy
    rcases ho with ho | ho
    · rw [putA_size, putA_head ws c off ho]; exact ⟨a1, a2, a3⟩
    · subst ho; exact ⟨a1, a2, a3⟩
  have hd : cs[0]? = some (.bld k) → ∃ y, cs = .bld k :: y := by
    intro hc
    cases cs with
    | nil => simp at hc
    | cons z y => simp at hc; exact ⟨y, by rw [hc]⟩
  cases off with
  | zero =>
    cases vs with
    | nil =>
      have : ws = [] := List.eq_nil_of_length_eq_zero (by simpa using hl.symm)
      exact old (hd h0) (.inr this)
    | cons v vs =>
      exfalso
      unfold putL at h0
      rw [putL_get vs _ 1 0 (by omega)] at h0
      cases cs with
      | nil => simp at h0
      | cons z y =>
        simp at h0
        have := hv v (by simp)
        rw [h0] at this; cases this
  | succ off =>
    rw [putL_get vs cs (off + 1) 0 (by omega)] at h0
    exact old (hd h0) (.inl (by omega))
theorem store_sound {P : Program} {W0 : World} {B : Nat} {e : E} {K : St → Res} {r : Out × St} {t : TypeId} {p v : V} {p' v' : Value} (hi : ∃ i, P.info? t = some i)
    (h : A.store (P.cellsOf t) p v e.st K = some r) (hr : Rel W0 B e) (hp : Rs e [p] [p']) (hv : Rs e [v] [v']) : StepU P W0 B e (Instr.storeAt t p' v') K r := by
  obtain ⟨i, hi⟩ := hi
  unfold A.store at h
  split at h
  · rename_i id off
    split at h
    · rename_i cs hcs
      split at h
      · rename_i hh
        obtain ⟨h1, h2, h3⟩ := hh
        rw [cellsOf_eq hi] at h1 h2
        have h3' : ∀ x ∈ v.cells, x.one = true := by simpa using h3
        cases hp with | ptr _ _ a hn hl _ =>
        have ha := hl _ hcs; subst ha
        obtain ⟨hB, ho, c, ty, fz, hb, hu, hle, hc, hbk⟩ := hr.cells id cs hcs
        have hvc := hv.cells
        have hvl : v.cells.length = v'.cells.size := by simpa using hvc.length
        have hlive : ∃ o', e.st.ob id = some o' := ⟨_, hcs⟩
        have h0 := (hr.live id _ hcs).2
        have hsz : ∀ c1 ty1 fz1, Obj.cells c ty fz = .cells c1 ty1 fz1 → ∃ c' fz', Obj.cells (putA c off v'.cells.toList) ty fz = .cells c' ty1 fz' ∧ c'.size = c1.size := by
          intro c1 ty1 fz1 he; cases he; exact ⟨_, _, rfl, putA_size _ _ _⟩
        refine ⟨e.upd id (.cells (putL cs off v.cells)) (.cells (putA c off v'.cells.toList) ty fz), h, ?_, Ext.upd hlive hb h0 hsz, hr.upd hlive hb hsz hB ?_ ?_⟩
        · have hrun := storeCells_run (P := P) v'.cells.toList e.w (e.σ id) off 0 c ty fz hb (fun j _ hj => hu j (by omega) hj) (by simp; omega) (hvc.ones h3')
          simp [Instr.storeAt, Instr.sureAddr, storeVar, sizeOf_run hi, show v'.cells.size = i.size by omega]
          rw [Nat.add_zero] at hrun
          exact hrun
        · intro cs' he; cases he
          refine ⟨?_, _, _, _, rfl, ?_, ?_, ?_, ?_⟩
          · intro x hx
            rcases putL_mem _ _ _ x hx with g | g
            · exact ho x g
            · exact oneB_of (h3' x g)
          · intro j h4 h5; rw [putA_size] at h5; exact hu j h4 h5
          · rw [putL_length, putA_size]; exact hle
          · rw [putA_list, putL_length, putL_take]
            exact Rs.putL off hc hvc
          · exact bldOK_put hbk h3' (by simpa using hvl)
        · intro es he; cases he
      · cases h
    · cases h
  · cases h
end Go.Ab
