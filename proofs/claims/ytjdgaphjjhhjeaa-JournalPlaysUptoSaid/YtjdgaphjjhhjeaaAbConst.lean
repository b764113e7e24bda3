import Derived.Test.YtjdgaphjjhhjeaaAbRow
/- A function that answers true in every world, as the engine sees it. -/
namespace Go.Ab
open Go.RowKit
set_option linter.unusedVariables false
/-- Values without memory. -/
def concC : V → Option Value
  | .int k n => some (.int k n)
  | .bool b => some (.bool b)
  | .str s => some (.string ⟨s.toArray⟩)
  | _ => none
def concL : List V → Option (List Value)
  | [] => some []
  | v :: vs => match concC v, concL vs with
    | some x, some xs => some (x :: xs)
    | _, _ => none
def conc : V → Option Value
  | .agg l => match concL l with
    | some xs => some (.agg xs.toArray)
    | none => none
  | v => concC v
theorem concC_rs {v : V} {x : Value} (h : concC v = some x) (e : E) : Rs e [v] [x] ∧ v.one = true ∧ ∀ w, Rs e [v] [w] → w = x := by
  cases v <;> simp [concC] at h <;> subst h
  · exact ⟨.int _ _ .nil, rfl, fun w q => by cases q; rfl⟩
  · exact ⟨.bool _ .nil, rfl, fun w q => by cases q; rfl⟩
  · exact ⟨.str _ .nil, rfl, fun w q => by cases q; rfl⟩
theorem concL_rs (e : E) : ∀ {l : List V} {xs : List Value}, concL l = some xs → Rs e l xs ∧ (∀ v ∈ l, v.one = true) ∧ ∀ ws, Rs e l ws → ws = xs
  | [], xs, h => by cases h; exact ⟨.nil, by simp, fun ws q => by cases q; rfl⟩
  | v :: vs, xs, h => by
    unfold concL at h
    split at h
    · rename_i x ys h1 h2
      cases h
      obtain ⟨a1, a2, a3⟩ := concC_rs h1 e
      obtain ⟨b1, b2, b3⟩ := concL_rs e h2
      refine ⟨Rs.cons a1 b1, ?_, ?_⟩
      · intro y hy; rcases List.mem_cons.1 hy with g | g
        · exact g ▸ a2
        · exact b2 y g
      · intro ws q
        cases ws with
        | nil => cases q
        | cons w ws => rw [a3 w q.both.1, b3 ws q.both.2]
    · cases h
theorem conc_rs {v : V} {x : Value} (h : conc v = some x) (e : E) : Rs e [v] [x] ∧ ∀ w, Rs e [v] [w] → w = x := by
  unfold conc at h
  split at h
  · split at h
    · rename_i l xs hl
      cases h
      obtain ⟨a, b, c⟩ := concL_rs e hl
      refine ⟨.agg _ _ b (by simpa using a) .nil, fun w q => ?_⟩
      cases q with
      | agg _ A ho h1 _ => rw [← c _ h1]
    · cases h
  · obtain ⟨a, _, c⟩ := concC_rs h e
    exact ⟨a, c⟩
/-- A closed call's contract. -/
theorem val_row {P : Program} {f : FuncId} {s : Fn} (hs : Sim P f s) (W : World) {v : V} {v' : Value} (hv : conc v = some v') {st' : St} (h : s [] St0 = some (.ret v, st')) :
    Calls P f #[] W fun e w' => e = .returned v' ∧ Below W.heap.size W w' := by
  have := hs.run W W.heap.size (E0 W) [] #[] _ _ h (rel0 W) .nil
  refine this.mono fun en w' hh => ?_
  obtain ⟨e', _, rfl, _, hr, ho⟩ := hh
  refine ⟨?_, hr.below⟩
  obtain ⟨w, rfl, hw⟩ := ho
  rw [(conc_rs hv e').2 w hw]
/-- It is seen to leave all as it was. -/
theorem Sim.constV {P : Program} {f : FuncId} {v : V} {v' : Value} (hv : conc v = some v') (hok : okFn P f = true) (h : ∀ w, Calls P f #[] w fun en w' => en = .returned v' ∧ Below w.heap.size w w') :
    Sim P f (fun args st => match args with | [] => some (.ret v, st) | _ => none) := by
  refine ⟨hok, fun W0 B e args cargs out st' hs hr ha => ?_⟩
  cases args with
  | cons a l => cases hs
  | nil =>
    have hc : cargs = #[] := by
      have : cargs.toList.length = 0 := by have := ha.length; simpa using this.symm
      apply Array.eq_empty_of_size_eq_zero; simpa using this
    subst hc
    cases hs
    refine (h e.w).mono fun en w' hh => ?_
    obtain ⟨he, hb⟩ := hh
    have old : ∀ (b : Nat) (x : Obj), e.w.heap[b]? = some x → w'.heap[b]? = some x := by
      intro b x hx
      have hlt := (Array.getElem?_eq_some_iff.mp hx).1
      rw [hb.block b hlt]; exact hx
    have hlt : ∀ id o', e.st.ob id = some o' → e.σ id < e.w.heap.size := by
      intro id o' ho'
      cases o' with
      | cells cs => obtain ⟨_, _, c, ty, fz, d, _⟩ := hr.cells id cs ho'; exact (Array.getElem?_eq_some_iff.mp d).1
      | map es => obtain ⟨_, ents, clock, d, _⟩ := hr.maps id es ho'; exact (Array.getElem?_eq_some_iff.mp d).1
    let e' : E := { e with w := w' }
    have X : Ext e e' := ⟨Nat.le_refl _, Nat.le_refl _, fun _ _ => rfl, fun _ _ o h => ⟨o, h⟩, fun _ _ => rfl, fun _ _ _ h => h, fun _ => Nat.le_refl _, fun b c ty fz hx => ⟨c, fz, old b (.cells c ty fz) hx, rfl, fun _ _ => rfl⟩⟩
    have hsz := hr.below.size
    refine ⟨e', rfl, rfl, X, ?_, ⟨v', he, (conc_rs hv _).1⟩⟩
    refine ⟨hr.below.trans ⟨hb.os, hb.tape, hb.output, hb.size, fun k hk => hb.block k (by have := hr.hB; omega)⟩, hr.hB, ?_, ?_, hr.live, hr.inj, hr.tkn, ?_, hr.tinj, hr.tob, ?_, fun b hb' => hr.frn b (Nat.le_trans hb.size hb')⟩
    · intro id cs ho
      obtain ⟨a, b, c, ty, fz, d, f, g, k, kb⟩ := hr.cells id cs ho
      exact ⟨a, b, c, ty, fz, old _ _ d, f, g, k.mono X, kb⟩
    · intro id es ho
      obtain ⟨a, ents, clock, b, c, d⟩ := hr.maps id es ho
      exact ⟨a, ents, clock, old _ _ b, c.mono X, d.1.mono X, d.2⟩
    · intro t s b k ht hτ
      obtain ⟨a, b', c, ty, fz, d, f⟩ := hr.toks t s b k ht hτ
      exact ⟨a, b', c, ty, fz, old _ _ d, f⟩
    · intro b c ty fz hx
      by_cases hbs : b < e.w.heap.size
      · have hx' : w'.heap[b]? = some (.cells c ty fz) := hx
        rw [hb.block b hbs] at hx'
        exact hr.frs b c ty fz hx'
      · have := hr.frn b (by omega)
        show e.fr b ≤ _
        omega
theorem Sim.const {P : Program} {f : FuncId} (hok : okFn P f = true) (h : ∀ w, Calls P f #[] w fun en w' => en = .returned (.bool true) ∧ Below w.heap.size w w') :
    Sim P f (fun args st => match args with | [] => some (.ret (.bool true), st) | _ => none) := Sim.constV (v := .bool true) rfl hok h
end Go.Ab
