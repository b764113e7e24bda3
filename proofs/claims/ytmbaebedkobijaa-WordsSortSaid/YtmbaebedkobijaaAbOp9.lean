import Derived.Test.YtmbaebedkobijaaAbOp8
/- Append to an object whose elements may be written. -/
namespace Go.Ab
open Go.RowKit
set_option linter.unusedVariables false
set_option linter.unusedSimpArgs false

/-- An object's block goes over to a new object. -/
def E.move (e : E) (id : Nat) (o : Ob) (x : Obj) : E := { e with st := (e.st.del id).new o, w := setBlk e.w (e.σ id) x, σ := fun i => if i = e.st.n then e.σ id else e.σ i }

theorem move_ob {e : E} {id i : Nat} {o o' : Ob} {x : Obj} (h : (e.move id o x).st.ob i = some o') : (i = e.st.n ∧ o' = o) ∨ (i ≠ e.st.n ∧ i ≠ id ∧ e.st.ob i = some o') := by
  have h' : (if i = e.st.n then some o else if i = id then none else e.st.ob i) = some o' := h
  by_cases h1 : i = e.st.n
  · rw [if_pos h1] at h'; exact .inl ⟨h1, (Option.some.inj h').symm⟩
  · rw [if_neg h1] at h'
    by_cases h2 : i = id
    · rw [if_pos h2] at h'; cases h'
    · rw [if_neg h2] at h'; exact .inr ⟨h1, h2, h'⟩

theorem Ext.move {e : E} {id : Nat} {o : Ob} {x y : Obj} (hn : ∀ o', e.st.ob e.st.n = some o' → False) (hy : e.w.heap[e.σ id]? = some y) (h0 : e.fr (e.σ id) = 0)
    (hs : ∀ c ty fz, y = .cells c ty fz → ∃ c' fz', x = .cells c' ty fz' ∧ c'.size = c.size) : Ext e (e.move id o x) := by
  refine ⟨Nat.le_succ _, Nat.le_refl _, fun i hi => ?_, fun i hi o' ho' => ?_, fun _ _ => rfl, fun _ _ _ h => h, fun _ => Nat.le_refl _, fun b c ty fz hb => ?_⟩
  · simp only [E.move]; rw [if_neg (by omega)]
  · rcases move_ob ho' with ⟨g, _⟩ | ⟨_, _, g⟩
    · omega
    · exact ⟨o', g⟩
  · by_cases hbe : b = e.σ id
    · subst hbe
      rw [hy] at hb
      obtain ⟨c', fz', hx, hsz⟩ := hs c ty fz (Option.some.inj hb)
      refine ⟨c', fz', ?_, hsz, fun i hi => by rw [h0] at hi; omega⟩
      simp only [E.move]; rw [setBlk_here hy, hx]
    · exact ⟨c, fz, by simp only [E.move]; rw [setBlk_other hbe]; exact hb, rfl, fun _ _ => rfl⟩

theorem Rel.move {W0 : World} {B : Nat} {e : E} (h : Rel W0 B e) {id : Nat} {cs : List V} {x y : Obj} (hl : ∃ o', e.st.ob id = some o') (hy : e.w.heap[e.σ id]? = some y)
    (hs : ∀ c ty fz, y = .cells c ty fz → ∃ c' fz', x = .cells c' ty fz' ∧ c'.size = c.size) (hB : B ≤ e.σ id)
    (hc : (∀ v ∈ cs, v.one = true) ∧ ∃ c ty fz, x = .cells c ty fz ∧ unfz c fz 0 ∧ cs.length ≤ c.size ∧ Rs e cs (c.toList.take cs.length)) : Rel W0 B (e.move id (.cells cs) x) := by
  obtain ⟨o0, ho0⟩ := hl
  have h0 := (h.live id o0 ho0).2
  have hidn := (h.live id o0 ho0).1
  have hnew : ∀ o', e.st.ob e.st.n = some o' → False := fun o' ho' => by have := (h.live _ _ ho').1; omega
  have X : Ext e (e.move id (.cells cs) x) := Ext.move hnew hy h0 hs
  have hoth : ∀ j o', j ≠ id → e.st.ob j = some o' → e.σ j ≠ e.σ id := fun j o' hj ho' he => hj (h.inj j id o' o0 ho' ho0 he)
  have hσn : (e.move id (.cells cs) x).σ e.st.n = e.σ id := by simp [E.move]
  have hσ : ∀ j, j ≠ e.st.n → (e.move id (.cells cs) x).σ j = e.σ j := fun j hj => by simp [E.move, hj]
  refine ⟨⟨h.below.os, h.below.tape, h.below.output, by simp only [E.move, setBlk_size]; exact h.below.size, fun k hk => ?_⟩, h.hB, ?_, ?_, ?_, ?_, h.tkn, ?_, h.tinj, ?_, ?_, ?_⟩
  · simp only [E.move]; rw [setBlk_other (by omega)]; exact h.below.block k hk
  · intro j cs' ho
    rcases move_ob ho with ⟨rfl, he⟩ | ⟨hj, hj2, ho'⟩
    · cases he
      obtain ⟨g1, c, ty, fz, rfl, g2, g3, g4⟩ := hc
      rw [hσn]
      exact ⟨hB, fun v hv => oneB_of (g1 v hv), c, ty, fz, setBlk_here hy, g2, g3, g4.mono X, bldOK_of g1⟩
    · obtain ⟨a, b, c, ty, fz, d, f, g, k, kb⟩ := h.cells j cs' ho'
      rw [hσ j hj]
      exact ⟨a, b, c, ty, fz, (setBlk_other (hoth j _ hj2 ho')).trans d, f, g, k.mono X, kb⟩
  · intro j es ho
    rcases move_ob ho with ⟨rfl, he⟩ | ⟨hj, hj2, ho'⟩
    · cases he
    · obtain ⟨a, ents, clock, b, c, d⟩ := h.maps j es ho'
      rw [hσ j hj]
      exact ⟨a, ents, clock, (setBlk_other (hoth j _ hj2 ho')).trans b, c.mono X, d.mono X⟩
  · intro j o' ho
    rcases move_ob ho with ⟨rfl, he⟩ | ⟨hj, hj2, ho'⟩
    · rw [hσn]; exact ⟨Nat.lt_succ_self _, h0⟩
    · rw [hσ j hj]; exact ⟨Nat.lt_succ_of_lt (h.live j _ ho').1, (h.live j _ ho').2⟩
  · intro i j o1 o2 h1 h2 hs
    rcases move_ob h1 with ⟨rfl, _⟩ | ⟨hi, hi2, h1'⟩ <;> rcases move_ob h2 with ⟨rfl, _⟩ | ⟨hj, hj2, h2'⟩
    · rfl
    · rw [hσn, hσ j hj] at hs; exact absurd hs.symm (hoth j _ hj2 h2')
    · rw [hσn, hσ i hi] at hs; exact absurd hs (hoth i _ hi2 h1')
    · rw [hσ i hi, hσ j hj] at hs; exact h.inj i j _ _ h1' h2' hs
  · intro t s b k ht hτ
    obtain ⟨a, b', c, ty, fz, d, f⟩ := h.toks t s b k ht hτ
    exact ⟨a, b', c, ty, fz, (setBlk_other (Ne.symm (h.tob t s b k id o0 ht hτ ho0))).trans d, f⟩
  · intro t s b k j o' ht hτ ho
    rcases move_ob ho with ⟨rfl, _⟩ | ⟨hj, hj2, ho'⟩
    · rw [hσn]; exact h.tob t s b k id o0 ht hτ ho0
    · rw [hσ j hj]; exact h.tob t s b k j o' ht hτ ho'
  · intro b c ty fz hb
    by_cases hbe : b = e.σ id
    · subst hbe; show e.fr _ ≤ _; omega
    · simp only [E.move] at hb; rw [setBlk_other hbe] at hb; exact h.frs b c ty fz hb
  · intro b hb
    simp only [E.move, setBlk_size] at hb
    exact h.frn b hb

/-- A new row, as an object. -/
theorem obj_new {W0 : World} {B : Nat} {e : E} (hr : Rel W0 B e) {cs : List V} {c : Array Value} {x0 : TypeId} {len cap sz : Nat} (hone : ∀ v ∈ cs, v.one = true) (hcap : len ≤ cap) (hc : cap * sz ≤ c.size) (hle : cs.length ≤ c.size) (hrs : Rs e cs (c.toList.take cs.length)) :
    ∃ e', e'.st = e.st.new (.cells cs) ∧ e'.w = { e.w with heap := e.w.heap.push (.cells c x0 (0, 0)) } ∧ Ext e e' ∧ Rel W0 B e' ∧ Rs e' [.sl e.st.n 0 len sz] [.slice (some ⟨e.w.heap.size, 0, none⟩) len cap] := by
  have hnew : ∀ o', e.st.ob e.st.n = some o' → False := fun o' ho' => by have := (hr.live _ _ ho').1; omega
  refine ⟨e.newOb (.cells cs) (.cells c x0 (0, 0)), rfl, rfl, Ext.newOb e _ _ hnew, hr.newOb _ _ ?_ ?_, .sl _ _ _ _ _ _ (Nat.lt_succ_self _) hcap (fun o ho h0 => ⟨by simp [E.newOb], c, x0, (0, 0), ?_, by omega⟩) .nil⟩
  · intro cs' he; cases he
    exact ⟨fun v hv => oneB_of (hone v hv), c, x0, (0, 0), rfl, fun i _ _ => by simp, hle, hrs, bldOK_of hone⟩
  · intro es he; cases he
  · show (e.w.heap.push _)[if e.st.n = e.st.n then _ else _]? = _
    rw [if_pos rfl, Array.getElem?_push, if_pos rfl]

theorem appM_sound {P : Program} {W0 : World} {B : Nat} {e : E} {K : V → St → Res} {r : Out × St} {t u ty x0 : TypeId} {s x : V} {s' x' : Value} {i : TypeInfo} {z : Value} (hs : sle P t = some x0) (hi : P.info? x0 = some i) (hz : i.zero = some z) (hzs : z.cells.size = i.size) (hb : i.bytes ≤ 65536) (hu : known P u = true) (hu2 : tk P u ≠ 2)
    (h : A.appM (P.cellsOf x0) s (elemsOf (tk P u) (P.cellsOf x0) x e.st) e.st K = some r) (hr : Rel W0 B e) (hsv : Rs e [s] [s']) (hxv : Rs e [x] [x']) : Step P W0 B e (Builtin.append_ #[t, u] ty #[s', x']) K r := by
  rw [cellsOf_eq hi] at h
  unfold A.appM at h
  split at h
  case h_2 => cases h
  rename_i new hnew
  obtain ⟨news, N⟩ := elemsOf_sound (P := P) hnew hr hxv
  have hN1 := N.len e.w
  have hN2 := N.run e.w rfl
  have hN3 := N.run e.w.drew rfl
  have R0 : Rel W0 B e.drew := hr.drew
  have hnfl := flat_length new i.size N.sz
  split at h
  · rename_i l tk0
    split at h
    · rename_i hh
      obtain ⟨hmax, hszl, htk, hne⟩ := hh
      have hn0 : 0 < new.length := by cases new with | nil => exact absurd rfl hne | cons _ _ => simp
      have outc : ∀ (base : Option Addr) (olds : List Value), s' = .slice base l.length l.length → (∀ w2 : World, w2.heap = e.w.heap → (Builtin.firstCells i.size l.length (.slice base l.length l.length)).run P w2 = .ok olds.toArray w2) → Rs e (flat l) olds → (∀ v ∈ l, v.cells.length = i.size) → (∀ v ∈ flat l, v.one = true) →
          Step P W0 B e (Builtin.append_ #[t, u] ty #[s', x']) K r := by
        intro base olds hs' hold hrs hszl2 hol
        subst hs'
        obtain ⟨cap2, hcap2, hrun⟩ := app_out (P := P) (ty := ty) hs hi hz hu hu2 hN1 hN3 (hold e.w.drew rfl) (by omega) hmax hb
        have hl1 : olds.length = l.length * i.size := by rw [← hrs.length, flat_length l _ hszl2]
        have hsz3 : (olds.toArray ++ news.toArray ++ Builtin.zeroCells z.cells (cap2 - (l.length + new.length))).size = cap2 * i.size := by
          simp only [Array.size_append, List.size_toArray, hl1, N.size, zeroCells_size, hzs]
          rw [← Nat.add_mul, ← Nat.add_mul]; congr 1; omega
        have hfl : (flat l ++ flat new).length = (l.length + new.length) * i.size := by rw [List.length_append, flat_length l _ hszl2, hnfl, Nat.add_mul]
        have hle : (l.length + new.length) * i.size ≤ cap2 * i.size := Nat.mul_le_mul_right _ hcap2
        have e1 : (olds.toArray ++ news.toArray ++ Builtin.zeroCells z.cells (cap2 - (l.length + new.length))).toList.take ((l.length + new.length) * i.size) = olds ++ news := by
          simp only [Array.toList_append, List.toList_toArray]
          rw [List.take_append_of_le_length (by simp [hl1, N.size, Nat.add_mul]), List.take_of_length_le (by simp [hl1, N.size, Nat.add_mul])]
        obtain ⟨e', q1, q2, q3, q4, q5⟩ := obj_new R0 (cs := flat l ++ flat new) (c := olds.toArray ++ news.toArray ++ Builtin.zeroCells z.cells (cap2 - (l.length + new.length))) (x0 := x0) (len := l.length + new.length) (cap := cap2) (sz := i.size) (by
          intro v hv; rcases List.mem_append.mp hv with g | g
          · exact hol v g
          · exact N.one v g) hcap2 (Nat.le_of_eq hsz3.symm) (by rw [hfl, hsz3]; exact hle) (by rw [hfl, e1]; exact (Rs.append hrs N.rs).mono (Ext.drew e))
        refine ⟨_, _, e', ?_, ?_, (Ext.drew e).trans q3, q4, q5⟩
        · rw [q1]; exact h
        · rw [hrun, q2]; rfl
      cases hsv with
      | lst0 _ _ _ => exact outc none [] rfl (fun w2 _ => by simp [Builtin.firstCells]) .nil (by simp) (by simp [flat])
      | lste _ ad _ _ => exact outc (some ad) [] rfl (fun w2 _ => by simp [Builtin.firstCells, loadCells, loadCellsFrom]) .nil (by simp) (by simp [flat])
      | lst _ _ len cap b o sz c ty2 fz hlen hcap hbk hsz ho hf hc hx1 ht1 _ =>
        subst hlen
        have hszl2 := szok_all hszl hsz
        have hmul : l.length * sz = l.length * i.size := by
          rcases szok_eq hszl hsz with g | g
          · rw [g]; simp
          · rw [g]
        have hfs := hr.frs b c ty2 fz hbk
        have hce : cap = l.length := htk.elim (fun g => (hx1.1 g).elim) hx1.2
        subst hce
        refine outc (some ⟨b, o, none⟩) ((c.toList.drop o).take (l.length * i.size)) rfl (fun w2 hw2 => ?_) (by rw [← hmul]; exact hc) hszl2 ho
        have := loadCells_run (P := P) (w := w2) (n := l.length * i.size) (by rw [hw2]; exact hbk) (show o + l.length * i.size ≤ c.size by omega)
        simp only [Builtin.firstCells]; exact this
    · cases h
  · rename_i id off len sz'
    split at h
    · rename_i cs hcs
      split at h
      · rename_i hh
        obtain ⟨hmax, rfl, rfl, hle0, hlen0, hones⟩ := hh
        have hone : ∀ v ∈ cs.take (len * i.size) ++ flat new, v.one = true := by
          intro v hv; rcases List.mem_append.mp hv with g | g
          · exact List.all_eq_true.mp hones v g
          · exact N.one v g
        have htk : (cs.take (len * i.size)).length = len * i.size := by simp; omega
        have hfl : (cs.take (len * i.size) ++ flat new).length = (len + new.length) * i.size := by rw [List.length_append, htk, hnfl, Nat.add_mul]
        have out : ∀ (base : Option Addr) (cap : Nat) (olds : List Value), s' = .slice base len cap → cap < len + new.length → (∀ w2 : World, w2.heap = e.w.heap → (Builtin.firstCells i.size len (.slice base len cap)).run P w2 = .ok olds.toArray w2) → Rs e (cs.take (len * i.size)) olds →
            Step P W0 B e (Builtin.append_ #[t, u] ty #[s', x']) K r := by
          intro base cap olds hs' hlt holdrun hold
          subst hs'
          obtain ⟨cap2, hcap2, hrun⟩ := app_out (P := P) (ty := ty) hs hi hz hu hu2 hN1 hN3 (holdrun e.w.drew rfl) (by omega) hmax hb
          have hl1 : olds.length = len * i.size := by rw [← hold.length, htk]
          have hsz3 : (olds.toArray ++ news.toArray ++ Builtin.zeroCells z.cells (cap2 - (len + new.length))).size = cap2 * i.size := by
            simp only [Array.size_append, List.size_toArray, hl1, N.size, zeroCells_size, hzs]
            rw [← Nat.add_mul, ← Nat.add_mul]; congr 1; omega
          have hle2 : (len + new.length) * i.size ≤ cap2 * i.size := Nat.mul_le_mul_right _ hcap2
          have e1 : (olds.toArray ++ news.toArray ++ Builtin.zeroCells z.cells (cap2 - (len + new.length))).toList.take ((len + new.length) * i.size) = olds ++ news := by
            simp only [Array.toList_append, List.toList_toArray]
            rw [List.take_append_of_le_length (by simp [N.size, hl1, Nat.add_mul]), List.take_of_length_le (by simp [N.size, hl1, Nat.add_mul])]
          have X1 := Ext.drop e.drew id
          have R1 := R0.drop id
          obtain ⟨e', q1, q2, q3, q4, q5⟩ := obj_new R1 (cs := cs.take (len * i.size) ++ flat new) (c := olds.toArray ++ news.toArray ++ Builtin.zeroCells z.cells (cap2 - (len + new.length))) (x0 := x0) (len := len + new.length) (cap := cap2) (sz := i.size) hone hcap2 (Nat.le_of_eq hsz3.symm) (by rw [hfl, hsz3]; exact hle2) (by rw [hfl, e1]; exact (Rs.append hold N.rs).mono ((Ext.drew e).trans X1))
          refine ⟨_, _, e', ?_, ?_, ((Ext.drew e).trans X1).trans q3, q4, q5⟩
          · rw [q1]; exact h
          · rw [hrun, q2]; rfl
        cases hsv with
        | sl _ _ _ _ cap a hn hcap hl2 _ =>
          by_cases hcap0 : cap = 0
          · have h00 : len = 0 := by omega
            have hne : 0 < new.length := by
              rcases hlen0 with g | g
              · omega
              · cases new with | nil => exact absurd rfl g | cons _ _ => simp
            subst h00
            exact out (some a) cap [] rfl (by omega) (fun w2 _ => by simp [Builtin.firstCells, loadCells, loadCellsFrom]) (by simp; exact .nil)
          obtain ⟨rfl, c, ty2, fz, hbk, hroom⟩ := hl2 _ hcs (by omega)
          obtain ⟨hB, ho, c1, ty1, fz1, hbk1, hu1, hle, hc, _⟩ := hr.cells id cs hcs
          rw [hbk] at hbk1; cases hbk1
          have hlive : ∃ o', e.st.ob id = some o' := ⟨_, hcs⟩
          have h0 := (hr.live id _ hcs).2
          have hnewn : ∀ o', e.st.ob e.st.n = some o' → False := fun o' ho' => by have := (hr.live _ _ ho').1; omega
          have hold : Rs e (cs.take (len * i.size)) (c.toList.take (len * i.size)) := by
            have := hc.take (len * i.size)
            rw [List.take_take, Nat.min_eq_left (by omega)] at this; exact this
          have hcsz : c.toList.length = c.size := Array.length_toList
          by_cases hin : len + new.length ≤ cap
          · have hrunin := app_in (P := P) (ty := ty) (base := some ⟨e.σ id, 0, none⟩) (n := len) (cap := cap) hs hi hu hu2 hN1 hN2 hin
            have hcapmul : (len + new.length) * i.size ≤ cap * i.size := Nat.mul_le_mul_right _ hin
            have hadd : (len + new.length) * i.size = len * i.size + new.length * i.size := Nat.add_mul _ _ _
            have hnl := N.size
            have hpsz := putA_size news c (len * i.size)
            have hsz : ∀ c1 ty1 fz1, Obj.cells c ty2 fz = .cells c1 ty1 fz1 → ∃ c' fz', Obj.cells (putA c (len * i.size) news) ty2 fz = .cells c' ty1 fz' ∧ c'.size = c1.size := by
              intro c1 ty1 fz1 he; cases he; exact ⟨_, _, rfl, hpsz⟩
            have e1 : (putA c (len * i.size) news).toList.take ((len + new.length) * i.size) = c.toList.take (len * i.size) ++ news := by
              have := putL_behind c.toList 0 (len * i.size) news (by omega)
              rw [Nat.zero_add, List.drop_zero, List.drop_zero] at this
              rw [putA_list, hadd, ← hnl]; exact this
            refine ⟨_, .slice (some ⟨e.σ id, 0, none⟩) (len + new.length) cap, e.move id (.cells (cs.take (len * i.size) ++ flat new)) (.cells (putA c (len * i.size) news) ty2 fz), h, ?_, Ext.move hnewn hbk h0 hsz, hr.move hlive hbk hsz hB ⟨hone, _, _, _, rfl, ?_, ?_, ?_⟩, ?_⟩
            · rw [hrunin]
              simp only [add_plain, Nat.zero_add]
              have hrun := storeCells_run (P := P) news e.w (e.σ id) (len * i.size) 0 c ty2 fz hbk (fun j h1 h2 => hu1 j (by omega) h2) (by omega) (N.rs.ones N.one)
              rw [Nat.add_zero] at hrun
              rw [hrun]; rfl
            · intro j h4 h5; rw [hpsz] at h5; exact hu1 j h4 h5
            · rw [hfl, hpsz]; omega
            · rw [hfl, e1]; exact Rs.append hold N.rs
            · refine .sl _ _ _ _ _ _ (Nat.lt_succ_self _) hin (fun o ho h0 => ⟨by simp [E.move], putA c (len * i.size) news, ty2, fz, ?_, by omega⟩) .nil
              show (setBlk e.w (e.σ id) _).heap[if e.st.n = e.st.n then _ else _]? = _
              rw [if_pos rfl]; exact setBlk_here hbk
          · refine out (some ⟨e.σ id, 0, none⟩) cap (c.toList.take (len * i.size)) rfl (by omega) (fun w2 hw2 => ?_) hold
            have := loadCells_run (P := P) (w := w2) (o := 0) (n := len * i.size) (by rw [hw2]; exact hbk) (show 0 + len * i.size ≤ c.size by omega)
            simp only [Builtin.firstCells]; rw [this, List.drop_zero]
      · cases h
    · cases h
  · cases h
end Go.Ab
