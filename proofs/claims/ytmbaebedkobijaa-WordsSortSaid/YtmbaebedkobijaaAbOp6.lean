import Derived.Test.YtmbaebedkobijaaAbOp5
/- Append, proved. -/
namespace Go.Ab
open Go.RowKit
set_option linter.unusedVariables false
set_option linter.unusedSimpArgs false

theorem szok_all {l : List V} {sz n : Nat} (h : szok n l = true) (hsz : ∀ v ∈ l, v.cells.length = sz) : ∀ v ∈ l, v.cells.length = n := by
  rcases szok_eq h hsz with g | g
  · subst g; simp
  · rw [← g]; exact hsz

/-- The new row, laid; the token over it. -/
theorem app_new {W0 : World} {B : Nat} {e : E} (hr : Rel W0 B e) {l : List V} {sz len cap : Nat} {c : Array Value} {x0 : TypeId} {fz : Nat × Nat} (hu : unfz c fz (len * sz)) (hlen : l.length = len) (hcap : len ≤ cap) (hsz : ∀ v ∈ l, v.cells.length = sz) (ho : ∀ v ∈ flat l, v.one = true)
    (hc : cap * sz ≤ c.size) (hrs : Rs e (flat l) (c.toList.take (len * sz))) :
    ∃ e', e'.st = e.st.newTk sz ∧ e'.w = { e.w with heap := e.w.heap.push (.cells c x0 fz) } ∧ Ext e e' ∧ Rel W0 B e' ∧ Rs e' [.lst l (e.st.nt + 3)] [.slice (some ⟨e.w.heap.size, 0, none⟩) len cap] := by
  have hle : len * sz ≤ c.size := Nat.le_trans (Nat.mul_le_mul_right _ hcap) hc
  have X1 := Ext.lay e (.cells c x0 fz) (len * sz) (hr.frn _ (Nat.le_refl _))
  have R1 := hr.lay c x0 fz (len * sz) hle
  have hpush : (e.lay (.cells c x0 fz) (len * sz)).w.heap[e.w.heap.size]? = some (.cells c x0 fz) := by
    show (e.w.heap.push _)[e.w.heap.size]? = _; rw [Array.getElem?_push, if_pos rfl]
  have hfr : (e.lay (.cells c x0 fz) (len * sz)).fr e.w.heap.size = len * sz := by simp [E.lay]
  have X2 := Ext.tok R1 sz (some (e.w.heap.size, len * sz))
  have hlt : ∀ id o', e.st.ob id = some o' → e.σ id < e.w.heap.size := by
    intro id o' ho'
    cases o' with
    | cells cs => obtain ⟨_, _, c, ty, fz, d, _⟩ := hr.cells id cs ho'; exact (Array.getElem?_eq_some_iff.mp d).1
    | map es => obtain ⟨_, ents, clock, d, _⟩ := hr.maps id es ho'; exact (Array.getElem?_eq_some_iff.mp d).1
  have R2 := R1.tok sz (some (e.w.heap.size, len * sz)) (by
    intro b k hp; cases hp
    refine ⟨Nat.le_trans hr.hB hr.below.size, hfr, ⟨c, x0, fz, hpush, hu⟩, ?_, ?_⟩
    · intro t s k' ht hτ
      obtain ⟨_, _, c', ty, fz, d, _⟩ := hr.toks t s _ _ ht hτ
      have := (Array.getElem?_eq_some_iff.mp d).1; omega
    · intro id o hid he
      have := hlt id o hid
      have he' : e.σ id = e.w.heap.size := he
      omega)
  refine ⟨_, rfl, rfl, X1.trans X2, R2, ?_⟩
  refine .lst l _ len cap e.w.heap.size 0 sz c x0 fz hlen hcap hpush hsz ho (by rw [Nat.zero_add]; exact Nat.le_of_eq hfr.symm) ?_ (by omega) ?_ .nil
  · rw [List.drop_zero]; exact hrs.mono (X1.trans X2)
  · intro _
    refine ⟨Nat.lt_succ_self _, fun s hs hlt => ?_⟩
    have h1 : s = sz := by
      rcases tok_tk hs with ⟨_, g⟩ | ⟨g, _⟩
      · exact g
      · exact absurd rfl g
    refine ⟨h1, ?_, by rw [Nat.zero_add]; exact hc⟩
    show (if e.st.nt = e.st.nt then some (e.w.heap.size, len * sz) else _) = _
    rw [if_pos rfl, Nat.zero_add]

/-- No room behind the value, or none that matters: a token that gives nothing. -/
theorem app_same {W0 : World} {B : Nat} {e : E} (hr : Rel W0 B e) (sz : Nat) : Ext e (e.tok sz none) ∧ Rel W0 B (e.tok sz none) := ⟨Ext.tok hr sz none, hr.tok sz none (by intro b k h; cases h)⟩

theorem zeroCells_size (zero : Array Value) (n : Nat) : (Builtin.zeroCells zero n).size = n * zero.size := by simp [Builtin.zeroCells]

theorem putL_behind {α : Type} (cs : List α) (o k : Nat) (vs : List α) (h : o + k + vs.length ≤ cs.length) : ((putL cs (o + k) vs).drop o).take (k + vs.length) = (cs.drop o).take k ++ vs := by
  rw [putL_eq _ _ _ (by omega)]
  rw [List.append_assoc, List.drop_append_of_le_length (by simp; omega), List.drop_take, show o + k - o = k by omega]
  rw [List.take_append, List.take_of_length_le (by simp; omega), show k + vs.length - ((cs.drop o).take k).length = vs.length by simp; omega, List.take_left]

theorem app_sound {P : Program} {W0 : World} {B : Nat} {e : E} {K : V → St → Res} {r : Out × St} {t u ty x0 : TypeId} {s x : V} {s' x' : Value} {i : TypeInfo} {z : Value} (hs : sle P t = some x0) (hi : P.info? x0 = some i) (hz : i.zero = some z) (hzs : z.cells.size = i.size) (hb : i.bytes ≤ 65536) (hu : known P u = true) (hu2 : tk P u ≠ 2)
    (h : A.app (P.cellsOf x0) s (elemsOf (tk P u) (P.cellsOf x0) x e.st) e.st K = some r) (hr : Rel W0 B e) (hsv : Rs e [s] [s']) (hxv : Rs e [x] [x']) : Step P W0 B e (Builtin.append_ #[t, u] ty #[s', x']) K r := by
  rw [cellsOf_eq hi] at h
  unfold A.app at h
  split at h
  case h_2 => cases h
  rename_i new hnew
  obtain ⟨news, N⟩ := elemsOf_sound (P := P) hnew hr hxv
  split at h
  case h_2 => cases h
  rename_i l tk0
  split at h
  case isFalse => cases h
  rename_i hh
  obtain ⟨hmax, hszl⟩ := hh
  have hN1 := N.len e.w
  have hN2 := N.run e.w rfl
  have hN3 := N.run e.w.drew rfl
  have hrsD : Rel W0 B e.drew := hr.drew
  have arm : ∀ e0 : E, e0.w = e.w → e0.σ = e.σ → e0.τ = e.τ → e0.fr = e.fr → e0.st.ob = e.st.ob → Ext e e0 → Rel W0 B e0 → K (.lst (l ++ new) (e0.st.nt + 3)) (e0.st.newTk i.size) = some r → e0.st.nt = e.st.nt → (∀ t s, e0.st.tk t = some s → e.st.tk t = some s) →
      (∀ t0, tk0 = t0 + 3 → e.st.tk t0 = some i.size ∧ ∀ s, e0.st.tk t0 ≠ some s) → (tk0 = 1 ∨ tk0 = 2 ∨ 3 ≤ tk0) → Step P W0 B e (Builtin.append_ #[t, u] ty #[s', x']) K r := by
    intro e0 hw0 hσ0 hτ0 hfr0 hob0 X0 R0 hK hnt0 htk0 htk hcase
    have outc : ∀ (base : Option Addr) (cap : Nat) (olds : List Value), s' = .slice base l.length cap → l.length ≤ cap → (∀ w2 : World, w2.heap = e.w.heap → (Builtin.firstCells i.size l.length (.slice base l.length cap)).run P w2 = .ok olds.toArray w2) → Rs e (flat l) olds → (∀ v ∈ l, v.cells.length = i.size) → (∀ v ∈ flat l, v.one = true) →
        cap < l.length + new.length → Step P W0 B e (Builtin.append_ #[t, u] ty #[s', x']) K r := by
      intro base cap olds hs' hcap hold hrs hszl2 hol hout
      subst hs'
      obtain ⟨cap2, hcap2, hrun⟩ := app_out (P := P) (ty := ty) hs hi hz hu hu2 hN1 hN3 (hold e.w.drew rfl) hout hmax hb
      have hl1 : olds.length = l.length * i.size := by rw [← hrs.length, flat_length l _ hszl2]
      have hsz3 : (olds.toArray ++ news.toArray ++ Builtin.zeroCells z.cells (cap2 - (l.length + new.length))).size = cap2 * i.size := by
        simp only [Array.size_append, List.size_toArray, hl1, N.size, zeroCells_size, hzs]
        rw [← Nat.add_mul, ← Nat.add_mul]; congr 1; omega
      have hlen3 : (l ++ new).length = l.length + new.length := List.length_append
      have R1 : Rel W0 B e0.drew := R0.drew
      have hrsnew : Rs e0.drew (flat (l ++ new)) ((olds.toArray ++ news.toArray ++ Builtin.zeroCells z.cells (cap2 - (l.length + new.length))).toList.take ((l.length + new.length) * i.size)) := by
        have e1 : (olds.toArray ++ news.toArray ++ Builtin.zeroCells z.cells (cap2 - (l.length + new.length))).toList.take ((l.length + new.length) * i.size) = olds ++ news := by
          simp only [Array.toList_append, List.toList_toArray]
          rw [List.take_append_of_le_length (by simp [hl1, N.size, Nat.add_mul]), List.take_of_length_le (by simp [hl1, N.size, Nat.add_mul])]
        rw [e1, flat_append]
        exact (Rs.append hrs N.rs).mono (X0.trans (Ext.drew e0))
      obtain ⟨e', q1, q2, q3, q4, q5⟩ := app_new R1 (x0 := x0) (fz := (0, 0)) (fun i _ _ => by simp) hlen3 hcap2 (by
        intro v hv; rcases List.mem_append.mp hv with g | g
        · exact hszl2 v g
        · exact N.sz v g) (by
        rw [flat_append]; intro v hv; rcases List.mem_append.mp hv with g | g
        · exact hol v g
        · exact N.one v g) (Nat.le_of_eq hsz3.symm) hrsnew
      refine ⟨_, _, e', ?_, ?_, (X0.trans (Ext.drew e0)).trans q3, q4, q5⟩
      · rw [q1]; exact hK
      · rw [hrun, q2]
        simp only [E.drew, hw0]
        rfl
    cases hsv with
    | lst0 _ _ _ =>
      by_cases hn0 : new.length = 0
      · have hnil : new = [] := List.eq_nil_of_length_eq_zero hn0
        subst hnil
        obtain ⟨X1, R1⟩ := app_same R0 i.size
        refine ⟨_, .slice none 0 0, _, hK, ?_, X0.trans X1, R1, .lst0 _ (fun _ => by simp [E.tok, St.newTk]) .nil⟩
        have := app_in (P := P) (ty := ty) (base := none) (n := 0) (cap := 0) hs hi hu hu2 hN1 hN2 (by simp)
        simp only [Result.andThen] at this
        rw [this]
        show _ = Result.ok _ e0.w
        rw [hw0]; rfl
      · exact outc none 0 [] rfl (Nat.le_refl _) (fun w2 _ => by simp [Builtin.firstCells]) .nil (by simp) (by simp [flat]) (by simp; omega)
    | lste _ ad ht0 _ =>
      by_cases hn0 : new.length = 0
      · have hnil : new = [] := List.eq_nil_of_length_eq_zero hn0
        subst hnil
        have hnews : news = [] := List.eq_nil_of_length_eq_zero (by rw [N.size]; simp)
        subst hnews
        obtain ⟨X1, R1⟩ := app_same R0 i.size
        refine ⟨_, .slice (some ad) 0 0, _, hK, ?_, X0.trans X1, R1, .lste _ ad ⟨by omega, fun _ => by simp [E.tok, St.newTk]⟩ .nil⟩
        have := app_in (P := P) (ty := ty) (base := some ad) (n := 0) (cap := 0) hs hi hu hu2 hN1 hN2 (by simp)
        simp only [Result.andThen] at this
        rw [this]; simp only [storeCells, Sem.run_pure]
        show _ = Result.ok _ e0.w
        rw [hw0]; rfl
      · exact outc (some ad) 0 [] rfl (Nat.le_refl _) (fun w2 _ => by simp [Builtin.firstCells, loadCells, loadCellsFrom]) .nil (by simp) (by simp [flat]) (by simp; omega)
    | lst _ _ len cap b o sz c ty2 fz hlen hcap hbk hsz ho hf hc hx1 ht1 _ =>
      subst hlen
      have hszl2 := szok_all hszl hsz
      have hmul : l.length * sz = l.length * i.size := by
        rcases szok_eq hszl hsz with g | g
        · rw [g]; simp
        · rw [g]
      have hfs := hr.frs b c ty2 fz hbk
      by_cases hin : l.length + new.length ≤ cap
      · have hrunin := app_in (P := P) (ty := ty) (base := some ⟨b, o, none⟩) (n := l.length) (cap := cap) hs hi hu hu2 hN1 hN2 hin
        by_cases hlc : l.length = cap
        · have hnil : new = [] := List.eq_nil_of_length_eq_zero (by omega)
          subst hnil
          have hnews : news = [] := List.eq_nil_of_length_eq_zero (by rw [N.size]; simp)
          subst hnews
          obtain ⟨X1, R1⟩ := app_same R0 i.size
          refine ⟨_, .slice (some ⟨b, o, none⟩) l.length cap, _, hK, ?_, X0.trans X1, R1, ?_⟩
          · rw [hrunin]; simp only [storeCells, Sem.run_pure, Result.andThen]
            show _ = Result.ok _ e0.w
            rw [hw0]; rfl
          · have X := X0.trans X1
            obtain ⟨c', fz', hb', hs', hi'⟩ := X.heap b c ty2 fz hbk
            rw [List.append_nil]
            refine .lst l _ l.length cap b o sz c' ty2 fz' rfl hcap hb' hsz ho (Nat.le_trans hf (X.fr b)) ?_ (by omega) ?_ .nil
            · rw [range_same hf hi']; exact hc.mono X
            · intro _; exact ⟨by simp [E.tok, St.newTk], fun s _ hlt => by omega⟩
        · have h2 : 3 ≤ tk0 := by
            rcases hcase with g | g | g
            · exact (hx1.1 g).elim
            · have := hx1.2 g; omega
            · exact g
          obtain ⟨t0, rfl⟩ : ∃ t0, tk0 = t0 + 3 := ⟨tk0 - 3, by omega⟩
          obtain ⟨g1, g2⟩ := htk t0 rfl
          obtain ⟨p1, p2⟩ := ht1 h2
          obtain ⟨rfl, r2, r3⟩ := p2 _ (by simpa using g1) (by omega)
          simp only [Nat.add_sub_cancel] at r2 p1
          obtain ⟨a1, a2, c1, ty1, fz1, a3, a4⟩ := hr.toks t0 _ _ _ g1 r2
          rw [hbk] at a3; cases a3
          have hmm : (l.length + new.length) * i.size = l.length * i.size + new.length * i.size := Nat.add_mul _ _ _
          have hcapmul : (l.length + new.length) * i.size ≤ cap * i.size := Nat.mul_le_mul_right _ hin
          have hnl := N.size
          have hbk0 : e0.w.heap[b]? = some (.cells c ty2 fz) := by rw [hw0]; exact hbk
          have hk0 : e0.fr b = o + l.length * i.size := by rw [hfr0]; exact a2
          have hpsz := putA_size news c (o + l.length * i.size)
          have hpl : (putA c (o + l.length * i.size) news).toList = putL c.toList (o + l.length * i.size) news := putA_list _ _ _
          have hsame : ∀ j, j < e0.fr b → (putA c (o + l.length * i.size) news)[j]? = c[j]? := by
            intro j hj
            rw [hk0] at hj
            have := putL_get news c.toList (o + l.length * i.size) j hj
            rw [← hpl] at this; simpa using this
          have ntok : ∀ t2 s2 k2, e0.st.tk t2 = some s2 → e0.τ t2 ≠ some (b, k2) := by
            intro t2 s2 k2 ht2 hτ2
            rw [hτ0] at hτ2
            have := hr.tinj t2 t0 _ _ b k2 _ (htk0 _ _ ht2) g1 hτ2 r2
            subst this
            exact g2 _ ht2
          have nob : ∀ id ob, e0.st.ob id = some ob → e0.σ id ≠ b := by
            intro id ob hid
            rw [hob0] at hid; rw [hσ0]
            exact hr.tob t0 _ _ _ id ob g1 r2 hid
          have X1 := Ext.raise (k := o + (l.length + new.length) * i.size) hbk0 (by rw [hk0]; omega) hpsz hsame
          have R1 := R0.raise (k := o + (l.length + new.length) * i.size) hbk0 (by rw [hk0]; omega) hpsz hsame a1 (by omega) ntok nob
          have X2 := Ext.tok R1 i.size (some (b, o + (l.length + new.length) * i.size))
          have R2 := R1.tok i.size (some (b, o + (l.length + new.length) * i.size)) (by
            intro b1 k1 hp; cases hp
            exact ⟨a1, by simp [E.raise], ⟨_, ty2, fz, setBlk_here hbk0, fun j h1 h2 => a4 j (by omega) (by rw [← hpsz]; exact h2)⟩, ntok, nob⟩)
          have X := (X0.trans X1).trans X2
          refine ⟨_, .slice (some ⟨b, o, none⟩) (l.length + new.length) cap, _, hK, ?_, X, R2, ?_⟩
          · rw [hrunin]
            simp only [add_plain]
            have hrun := storeCells_run (P := P) news e.w b (o + l.length * i.size) 0 c ty2 fz hbk (fun j h1 h2 => a4 j (by omega) h2) (by omega) (N.rs.ones N.one)
            rw [Nat.add_zero] at hrun
            rw [hrun]
            simp only [Result.andThen]
            show _ = Result.ok _ (setBlk e0.w b _)
            rw [hw0]
          · refine .lst _ _ _ cap b o i.size _ ty2 fz List.length_append hin (setBlk_here hbk0) ?_ ?_ ?_ ?_ (by omega) ?_ .nil
            · intro v hv; rcases List.mem_append.mp hv with g | g
              · exact hszl2 v g
              · exact N.sz v g
            · rw [flat_append]; intro v hv; rcases List.mem_append.mp hv with g | g
              · exact ho v g
              · exact N.one v g
            · show _ ≤ (if b = b then _ else _); rw [if_pos rfl]; exact Nat.le_refl _
            · have e1 : ((putA c (o + l.length * i.size) news).toList.drop o).take ((l.length + new.length) * i.size) = (c.toList.drop o).take (l.length * i.size) ++ news := by
                rw [hpl, hmm, ← hnl, putL_behind _ _ _ _ (by simp; omega)]
              rw [e1, flat_append]
              exact (Rs.append hc N.rs).mono X
            · intro _
              refine ⟨by simp only [Nat.add_sub_cancel]; exact Nat.lt_succ_self _, fun s hs hlt => ?_⟩
              have h1 : s = i.size := by
                rcases tok_tk hs with ⟨_, g⟩ | ⟨g, _⟩
                · exact g
                · exact absurd rfl g
              refine ⟨h1, ?_, by rw [hpsz]; exact r3⟩
              show (if e0.st.nt = e0.st.nt then some _ else _) = _
              rw [if_pos rfl]
      · refine outc (some ⟨b, o, none⟩) cap ((c.toList.drop o).take (l.length * i.size)) rfl hcap (fun w2 hw2 => ?_) (by rw [← hmul]; exact hc) hszl2 ho (by omega)
        have := loadCells_run (P := P) (w := w2) (n := l.length * i.size) (by rw [hw2]; exact hbk) (show o + l.length * i.size ≤ c.size by omega)
        simp only [Builtin.firstCells]; exact this
  split at h
  · cases h
  · exact arm e rfl rfl rfl rfl rfl (Ext.refl e) hr h rfl (fun _ _ h => h) (by intro t0 h0; omega) (.inl rfl)
  · exact arm e rfl rfl rfl rfl rfl (Ext.refl e) hr h rfl (fun _ _ h => h) (by intro t0 h0; omega) (.inr (.inl rfl))
  · rename_i t0
    split at h
    · rename_i htk
      exact arm (e.kill t0) rfl rfl rfl rfl rfl (Ext.kill e t0) (hr.kill t0) h rfl (fun t s hs => (kill_tk hs).2) (by
        intro t1 h1
        have : t1 = t0 := by omega
        subst this
        exact ⟨htk, fun s hs => (kill_tk hs).1 rfl⟩) (.inr (.inr (by omega)))
    · cases h
end Go.Ab
