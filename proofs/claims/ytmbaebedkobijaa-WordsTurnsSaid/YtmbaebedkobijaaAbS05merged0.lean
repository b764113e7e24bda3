import Derived.Test.YtmbaebedkobijaaAbS05
import Derived.Test.YtmbaebedkobijaaHsort
import Derived.Test.YtmbaebedkobijaaHis
/- sinew/words: slices.SortFunc is what it is. -/
namespace Go.Ab
open Go.RowKit Go.Proofs Go.Sort Go.Lib Go.Shelf
set_option linter.unusedVariables false
set_option linter.unusedSimpArgs false
def encF {m : Nat} (x : Fin m) : Value := .int .i64 ((x.val : Nat) : Int)
theorem sortTotal {m : Nat} [Inhabited (Fin m)] (cf : Fin m → Fin m → Int) (hO : SWO (ltOf cf)) (cb : Array Value) (blk off cap : Nat) (d : Array (Fin m)) (w : World) (hcmp : CmpLays1 Try.prog 25 cb encF cf blk off d.size w) (hH : Holds encF w blk off d) (hblk : blk < w.heap.size) (hsz : d.size < 4611686018427387904) (hT : ∀ x y, (ltOf cf) x y = false → (ltOf cf) y x = false → x = y) :
    Calls Try.prog 24 #[.slice (some ⟨blk, off, none⟩) d.size cap, .func (.func 25) #[] cb] w fun e w' => e = .returned (.tuple #[]) ∧ ∃ n os, w' = sortWorld encF w blk off n (d.toList.mergeSort fun x y => !(ltOf cf) y x).toArray os := by
  have eg : ∀ args w, (callFunc 25 args).run Try.prog w = .ok (.enter 25 args) w := enters_of Try.func25 (by kernel_rfl) rfl
  exact Any.slices_SortFunc_total Try.sortL encF (fun _ => rfl) cf hO 25 cb blk off cap d w eg hcmp hH hblk hsz hT
theorem sortNone (p : Option Addr) (cap : Nat) (fv : Value) (w : World) : Calls Try.prog 24 #[.slice p 0 cap, fv] w fun e w' => e = .returned (.tuple #[]) ∧ w' = w := by
  exact AnyF.slices_SortFunc_none { Try.sortL with } p cap fv w
end Go.Ab

/- sinew/words: slices.SortFunc, for the engine. -/
namespace Go.Ab
open Go.RowKit Go.Proofs Go.Sort Go.Lib
set_option linter.unusedVariables false
set_option linter.unusedSimpArgs false
theorem sortWorld_other {α : Type} [Inhabited α] (enc : α → Value) (w : World) (blk off m : Nat) (dk : Array α) (os : Array Obj) {b : Nat} (hb : b ≠ blk) (hlt : b < w.heap.size) : (sortWorld enc w blk off m dk os).heap[b]? = w.heap[b]? := by
  show ((w.heap.modify blk _) ++ os)[b]? = _
  rw [Array.getElem?_append_left (by simpa using hlt), Array.getElem?_modify, if_neg (Ne.symm hb)]
theorem sortWorld_blk {α : Type} [Inhabited α] (enc : α → Value) (w : World) (blk off m : Nat) (dk : Array α) (os : Array Obj) {c : Array Value} {ty : TypeId} {fz : Nat × Nat} (h : w.heap[blk]? = some (.cells c ty fz)) : (sortWorld enc w blk off m dk os).heap[blk]? = some (.cells (putCells enc off dk c) ty fz) := by
  have hlt := (Array.getElem?_eq_some_iff.mp h).1
  show ((w.heap.modify blk _) ++ os)[blk]? = _
  rw [Array.getElem?_append_left (by simpa using hlt), Array.getElem?_modify, if_pos rfl, h]
  rfl
theorem putCells_size {α : Type} [Inhabited α] (enc : α → Value) (off : Nat) (d : Array α) (c : Array Value) : (putCells enc off d c).size = c.size := by simp [putCells]
theorem putCells_take {α : Type} [Inhabited α] (enc : α → Value) (l : List α) (c : Array Value) (h : l.length ≤ c.size) : ((putCells enc 0 l.toArray c).toList.take l.length) = l.map enc := by
  apply List.ext_getElem?
  intro i
  rw [List.getElem?_take]
  by_cases hi : i < l.length
  · rw [if_pos hi, Array.getElem?_toList, List.getElem?_map, List.getElem?_eq_getElem hi]
    have hc : i < c.size := by omega
    unfold putCells
    rw [Array.getElem?_mapIdx, Array.getElem?_eq_getElem hc]
    simp [hi]
  · rw [if_neg hi, List.getElem?_eq_none (by simpa using hi)]
/-- Two lists of the same, both sorted. -/
theorem sorted_same (ws : List (List UInt8)) (hu : ws.Nodup) : ∀ (a b : List Nat), a.Perm b → a.Pairwise (leW ws) → b.Pairwise (leW ws) → (∀ x ∈ a, x < ws.length) → a = b
  | [], b, hp, _, _, _ => by rw [List.nil_perm.1 hp]
  | x :: a, b, hp, ha, hb, hx => by
    cases b with
    | nil => exact absurd hp.length_eq (by simp)
    | cons y b =>
      rw [List.pairwise_cons] at ha hb
      have hxy : x = y := by
        rcases List.mem_cons.1 (hp.mem_iff.1 (by simp : x ∈ x :: a)) with g | g
        · exact g
        rcases List.mem_cons.1 (hp.mem_iff.2 (by simp : y ∈ y :: b)) with g' | g'
        · exact g'.symm
        have h1 := hb.1 x g
        have h2 := ha.1 y g'
        have hxl := hx x (by simp)
        have hyl := hx y (List.mem_cons_of_mem _ g')
        have := less_tot h1 h2
        rw [List.getD_eq_getElem?_getD, List.getD_eq_getElem?_getD, List.getElem?_eq_getElem hxl, List.getElem?_eq_getElem hyl] at this
        exact (List.getElem_inj hu).1 this
      subst hxy
      rw [sorted_same ws hu a b (List.Perm.cons_inv hp) ha.2 hb.2 (fun z hz => hx z (List.mem_cons_of_mem _ hz))]
theorem pair_get {l : List V} {xs : List Value} {e : E} (h : Rs e l xs) {i : Nat} {v : V} (hv : l[i]? = some v) : ∃ x, xs[i]? = some x ∧ Rs e [v] [x] := h.get i hv
theorem block_lt {w : World} {b : Nat} {x : Obj} (h : w.heap[b]? = some x) : b < w.heap.size := (Array.getElem?_eq_some_iff.mp h).1
theorem sim24_core {W0 : World} {B : Nat} {e : E} (hr : Rel W0 B e) {id n c d t : Nat} {m0 : V} {ks : List Nat} {ws : List (List UInt8)} {cs l : List V} (hid : e.st.ob id = some (.cells cs)) (hc : e.st.ob c = some (.cells [.ptr d 0])) (hd : e.st.ob d = some (.cells [m0, .lst l t])) (hcs : cs = ks.map fun (k : Nat) => V.int .i64 (k : Nat)) (hl : l = ws.map V.str)
    (g1 : cs.length = n) (g2 : 0 < n) (g3 : n ≤ 1073741824) (g8 : ws.length ≤ 1073741824) (g4 : ∀ k ∈ ks, k < ws.length) (g5 : ws.Nodup) (g6 : id ≠ c) (g7 : id ≠ d) (cap : Nat) :
    Calls Try.prog 24 #[.slice (some ⟨e.σ id, 0, none⟩) n cap, .func (.func 25) #[] #[.pointer (some ⟨e.σ c, 0, none⟩)]] e.w fun en w' => ∃ e', e'.st = e.st.put id (.cells ((sortW ws ks).map fun (k : Nat) => V.int .i64 (k : Nat))) ∧ e'.w = w' ∧ Ext e e' ∧ Rel W0 B e' ∧ OutR e' (.ret (.tup [])) en := by
  have hkl : ks.length = n := by rw [← g1, hcs]; simp
  have hm : 0 < ws.length := by
    cases ks with
    | nil => simp at hkl; omega
    | cons k ks => have := g4 k (by simp); omega
  have : Inhabited (Fin ws.length) := ⟨⟨0, hm⟩⟩
  -- the blocks
  obtain ⟨a1, a2, cb, aty, afz, a3, a4, a5, a6, _⟩ := hr.cells id cs hid
  obtain ⟨b1, b2, cc, bty, bfz, b3, b4, b5, b6, _⟩ := hr.cells c _ hc
  obtain ⟨d1, d2, cd, dty, dfz, d3, d4, d5, d6, _⟩ := hr.cells d _ hd
  have hne1 : e.σ c ≠ e.σ id := fun h => g6 (hr.inj c id _ _ hc hid h).symm
  have hne2 : e.σ d ≠ e.σ id := fun h => g7 (hr.inj d id _ _ hd hid h).symm
  have hfr := (hr.live id _ hid).2
  -- the cells
  have hc0 : (cc[0]? : Option Value) = some (.pointer (some ⟨e.σ d, 0, none⟩)) := by
    obtain ⟨x, h1, h2⟩ := b6.get 0 (v := .ptr d 0) rfl
    rw [List.getElem?_take, if_pos (by simp), Array.getElem?_toList] at h1
    cases h2 with
    | ptr _ _ a hn hl' _ => rw [hl' _ hd] at h1; exact h1
  obtain ⟨xl, hd1, hrl⟩ := d6.get 1 (v := .lst l t) rfl
  rw [List.getElem?_take, if_pos (by simp), Array.getElem?_toList] at hd1
  have hll : l.length = ws.length := by rw [hl]; simp
  obtain ⟨b, o, cap2, cl, lty, lfz, hxl, hbl, hbn, hcl⟩ : ∃ b o cap2 cl lty lfz, xl = .slice (some ⟨b, o, none⟩) ws.length cap2 ∧ e.w.heap[b]? = some (.cells cl lty lfz) ∧ b ≠ e.σ id ∧ ∀ i (h : i < ws.length), (cl[o + i]? : Option Value) = some (.string ⟨(ws[i]).toArray⟩) := by
    cases hrl with
    | lst0 _ _ _ => simp at hll; omega
    | lste _ _ _ _ => simp at hll; omega
    | lst _ _ len cap2 b o sz cl lty lfz hlen hcap hb hsz ho hf hcv hx ht _ =>
      have hsz1 : sz = 1 := by
        have := hsz (V.str ws[0]) (by rw [hl]; exact List.mem_map.2 ⟨_, List.getElem_mem hm, rfl⟩)
        simpa [V.cells] using this.symm
      subst hsz1
      have hlen' : len = ws.length := by omega
      subst hlen'
      refine ⟨b, o, cap2, cl, lty, lfz, rfl, hb, ?_, ?_⟩
      · intro h; subst h; omega
      · intro i hi
        have hfl : flat l = l := (flat_ones (by rw [hl]; intro v hv; obtain ⟨s, _, rfl⟩ := List.mem_map.1 hv; rfl)).1
        rw [hfl] at hcv
        obtain ⟨x, h1, h2⟩ := hcv.get i (v := .str ws[i]) (by rw [hl]; simp [hi])
        rw [List.getElem?_take, if_pos (by omega), List.getElem?_drop, Array.getElem?_toList] at h1
        cases h2 with
        | str _ _ => exact h1
  -- the numbers
  have hks : ∀ j (h : j < ks.length), (cb[j]? : Option Value) = some (.int .i64 ((ks[j] : Nat) : Int)) := by
    intro j hj
    obtain ⟨x, h1, h2⟩ := a6.get j (v := .int .i64 ((ks[j] : Nat) : Int)) (by rw [hcs]; simp [hj])
    rw [List.getElem?_take, if_pos (by omega), Array.getElem?_toList] at h1
    cases h2 with
    | int _ _ _ => exact h1
  -- as what it sorts
  let dl : List (Fin ws.length) := ks.pmap (fun k h => (⟨k, h⟩ : Fin ws.length)) g4
  have hdl : dl.map (·.val) = ks := by simp [dl, List.map_pmap]
  have hdn : dl.length = n := by simp [dl, hkl]
  have hdg : ∀ j (h : j < dl.length), (dl[j]).val = ks[j]'(by simpa [dl] using h) := by intro j h; simp [dl]
  let cf : Fin ws.length → Fin ws.length → Int := fun i j => cmpS ws[i] ws[j]
  have hlt : ∀ i j, ltOf cf i j = Op.bytesLess ws[i] ws[j] := fun i j => cmpS_lt _ _
  have hgd : ∀ i : Fin ws.length, ws.getD i.val [] = ws[i] := fun i => by rw [List.getD_eq_getElem?_getD, List.getElem?_eq_getElem i.isLt]; rfl
  have hO : SWO (ltOf cf) := by
    refine ⟨fun x => by rw [hlt]; exact less_irr _, fun x y z h1 h2 => ?_, fun x y z h1 h2 => ?_⟩
    · rw [hlt] at *; exact less_tr h1 h2
    · rw [hlt] at *
      have := leW_trans (ws := ws) (i := z.val) (j := y.val) (k := x.val) (by unfold leW; rw [hgd, hgd]; exact h2) (by unfold leW; rw [hgd, hgd]; exact h1)
      unfold leW at this; rw [hgd, hgd] at this; exact this
  have hT : ∀ x y, (ltOf cf) x y = false → (ltOf cf) y x = false → x = y := by
    intro x y h1 h2
    rw [hlt] at *
    exact Fin.ext ((List.getElem_inj g5).1 (less_tot h1 h2))
  have hsz : dl.toArray.size = n := by simp [hdn]
  have hH : Holds encF e.w (e.σ id) 0 dl.toArray := by
    intro j hj
    have hj' : j < dl.length := by simpa using hj
    refine ⟨?_, ?_⟩
    · rw [cell_of a3, Nat.zero_add, hks j (by omega)]
      have : dl.toArray[j]! = dl[j] := by simp [hj']
      rw [this]
      unfold encF
      rw [hdg j hj']
    · have := a4 j (Nat.zero_le _) (by omega)
      unfold World.frozen?
      simp only [a3, Nat.zero_add]
      obtain ⟨f1, f2⟩ := afz
      simp only at this ⊢
      rw [Bool.and_eq_false_iff, decide_eq_false_iff_not, decide_eq_false_iff_not]
      omega
  have hcmp : CmpLays1 Try.prog 25 #[.pointer (some ⟨e.σ c, 0, none⟩)] encF cf (e.σ id) 0 dl.toArray.size e.w := by
    refine CmpReads.lays ?_
    intro m os dk hs x y
    have hw : ∀ b', b' ≠ e.σ id → b' < e.w.heap.size → (sortWorld encF e.w (e.σ id) 0 m dk os).heap[b']? = e.w.heap[b']? := fun b' h1 h2 => sortWorld_other _ _ _ _ _ _ _ h1 h2
    have k1 := (hw _ hne1 (block_lt b3)).trans b3
    have k2 := (hw _ hne2 (block_lt d3)).trans d3
    have k3 := (hw _ hbn (block_lt hbl)).trans hbl
    have hlen2 : ws.length ≤ 4611686018427387904 := by omega
    have := closure_c x.val y.val (e.σ c) (e.σ d) b o ws.length cap2 ⟨(ws[x]).toArray⟩ ⟨(ws[y]).toArray⟩ x.isLt y.isLt hlen2 (sortWorld encF e.w (e.σ id) 0 m dk os) (by rw [cell_of k1]; exact hc0) (by rw [cell_of k2, hd1, hxl]) (by rw [cell_of k3]; exact hcl _ x.isLt) (by rw [cell_of k3]; exact hcl _ y.isLt)
    simp only [Lib.toList_data] at this
    exact this
  have key := sortTotal cf hO #[.pointer (some ⟨e.σ c, 0, none⟩)] (e.σ id) 0 cap dl.toArray e.w hcmp hH (block_lt a3) (by rw [hsz]; omega) hT
  rw [hsz] at key
  refine key.mono ?_
  rintro en w' ⟨rfl, n', os, rfl⟩
  -- what is there then
  have hsame : ((dl.mergeSort fun x y => !(ltOf cf) y x).map (·.val)) = sortW ws ks := by
    refine sorted_same ws g5 _ _ ?_ ?_ (sortW_sorted ws ks) ?_
    · refine ((List.mergeSort_perm dl _).map (·.val)).trans ?_
      rw [hdl]; exact (sortW_perm ws ks).symm
    · rw [List.pairwise_map]
      have := List.pairwise_mergeSort (le := fun x y => !(ltOf cf) y x) (fun a b c h1 h2 => by
        simp only [Bool.not_eq_true'] at *; exact hO.ntrans c b a h2 h1) (fun a b => by
        cases h : (ltOf cf) b a with
        | false => simp
        | true =>
          cases h' : (ltOf cf) a b with
          | false => simp
          | true => have := hO.trans _ _ _ h h'; rw [hO.irrefl] at this; cases this) dl
      refine this.imp ?_
      intro a b h
      simp only [Bool.not_eq_true'] at h
      unfold leW; rw [hgd, hgd, ← hlt]; exact h
    · intro x hx
      obtain ⟨y, _, rfl⟩ := List.mem_map.1 hx
      exact y.isLt
  have hml : (dl.mergeSort fun x y => !(ltOf cf) y x).length = n := by rw [List.length_mergeSort, hdn]
  have henc : (dl.mergeSort fun x y => !(ltOf cf) y x).map encF = (sortW ws ks).map fun (k : Nat) => Value.int .i64 ((k : Nat) : Int) := by
    rw [← hsame, List.map_map]; rfl
  have hblk := sortWorld_blk encF e.w (e.σ id) 0 n' (dl.mergeSort fun x y => !(ltOf cf) y x).toArray os a3
  have htake := putCells_take encF (dl.mergeSort fun x y => !(ltOf cf) y x) cb (by rw [hml]; omega)
  rw [henc, hml] at htake
  have hsl : (sortW ws ks).length = n := by rw [(sortW_perm ws ks).length_eq, hkl]
  generalize hc2 : putCells encF 0 (dl.mergeSort fun x y => !(ltOf cf) y x).toArray cb = c2 at hblk htake
  have hc2s : c2.size = cb.size := by rw [← hc2]; exact putCells_size _ _ _ _
  have hE : Ext e (e.upd id (.cells ((sortW ws ks).map fun (k : Nat) => V.int .i64 (k : Nat))) (.cells c2 aty afz)) := Ext.upd ⟨_, hid⟩ a3 hfr (by intro c ty fz hx; cases hx; exact ⟨c2, afz, rfl, hc2s⟩)
  have rsI : ∀ l : List Nat, Rs e (l.map fun (k : Nat) => V.int .i64 (k : Nat)) (l.map fun (k : Nat) => Value.int .i64 ((k : Nat) : Int)) := by
    intro l
    induction l with
    | nil => exact .nil
    | cons k l ih => exact .int _ _ ih
  have hR : Rel W0 B (e.upd id (.cells ((sortW ws ks).map fun (k : Nat) => V.int .i64 (k : Nat))) (.cells c2 aty afz)) := by
    refine hr.upd ⟨_, hid⟩ a3 (by intro c ty fz hx; cases hx; exact ⟨c2, afz, rfl, hc2s⟩) a1 ?_ (by intro es he; cases he)
    intro cs2 he
    cases he
    have hall : ∀ v ∈ (sortW ws ks).map (fun (k : Nat) => V.int .i64 (k : Nat)), v.one = true := by
      intro v hv; obtain ⟨k, _, rfl⟩ := List.mem_map.1 hv; rfl
    refine ⟨fun v hv => oneB_of (hall v hv), c2, aty, afz, rfl, ?_, ?_, ?_, bldOK_of hall⟩
    · intro i h1 h2; rw [hc2s] at h2; exact a4 i h1 h2
    · rw [List.length_map, hsl, hc2s]; omega
    · rw [List.length_map, hsl, htake]; exact rsI _
  have hB : Below (e.upd id (.cells ((sortW ws ks).map fun (k : Nat) => V.int .i64 (k : Nat))) (.cells c2 aty afz)).w.heap.size (e.upd id (.cells ((sortW ws ks).map fun (k : Nat) => V.int .i64 (k : Nat))) (.cells c2 aty afz)).w (sortWorld encF e.w (e.σ id) 0 n' (dl.mergeSort fun x y => !(ltOf cf) y x).toArray os) := by
    refine ⟨rfl, rfl, rfl, ?_, ?_⟩
    · simp only [E.upd, setBlk_size]
      show _ ≤ ((e.w.heap.modify (e.σ id) _) ++ os).size
      simp
    · intro k hk
      simp only [E.upd, setBlk_size] at hk ⊢
      by_cases hkb : k = e.σ id
      · subst hkb; rw [hblk, setBlk_here a3]
      · rw [sortWorld_other _ _ _ _ _ _ _ hkb hk, setBlk_other hkb]
  obtain ⟨X2, R2⟩ := below_step hR hB
  exact ⟨_, rfl, rfl, hE.trans X2, R2, ⟨_, rfl, .tup [] #[] .nil .nil⟩⟩
theorem simA24 : Sim Try.prog 24 a24 := by
  refine ⟨by kernel_rfl, fun W0 B e args cargs out st' hs hr ha => ?_⟩
  obtain ⟨xs⟩ := cargs
  simp only at ha
  unfold a24 at hs
  split at hs
  · -- nothing
    cases hs
    obtain ⟨v, ws, rfl⟩ : ∃ v ws, xs = v :: ws := by
      cases xs with
      | nil => have := ha.length; simp at this
      | cons v ws => exact ⟨v, ws, rfl⟩
    obtain ⟨q1, q2⟩ := ha.both
    obtain ⟨p, cap, rfl⟩ : ∃ p cap, v = .slice p 0 cap := by
      cases q1 with
      | lst0 _ _ _ => exact ⟨_, _, rfl⟩
      | lste _ _ _ _ => exact ⟨_, _, rfl⟩
      | lst _ _ len cap b o sz c ty fz hlen => cases hlen; exact ⟨_, _, rfl⟩
    obtain ⟨f, rfl⟩ : ∃ f, ws = [f] := by
      have := q2.length
      match ws, this with
      | [f], _ => exact ⟨f, rfl⟩
    refine (sortNone p cap f e.w).mono ?_
    rintro en w' ⟨rfl, rfl⟩
    exact ⟨e, rfl, rfl, Ext.refl e, hr, ⟨_, rfl, .tup [] #[] .nil .nil⟩⟩
  · rename_i id n c
    split at hs
    · rename_i cs' hsort
      cases hs
      unfold sortA at hsort
      split at hsort
      · rename_i cs d hid hc
        split at hsort
        · rename_i m0 l t hd
          split at hsort
          · rename_i ks ws hks hws
            split at hsort
            · rename_i hcond
              obtain ⟨g1, g2, g3, g8, g4, g5, g6, g7⟩ := hcond
              cases hsort
              obtain ⟨v1, v2, rfl⟩ : ∃ v1 v2, xs = [v1, v2] := by
                have := ha.length
                match xs, this with
                | [v1, v2], _ => exact ⟨v1, v2, rfl⟩
              obtain ⟨q1, q2⟩ := ha.both
              cases q1 with | sl _ _ _ _ cap a hn hcap hl _ =>
              obtain ⟨ea, _⟩ := hl _ hid (by omega)
              subst ea
              cases q2 with | fn _ _ _ F C h1 h2 _ =>
              have hF : F = #[] := by
                apply Array.eq_empty_of_size_eq_zero
                have := h1.length; simpa using this.symm
              have hC : C = #[.pointer (some ⟨e.σ c, 0, none⟩)] := by
                obtain ⟨ys⟩ := C
                simp only at h2
                obtain ⟨y, rfl⟩ : ∃ y, ys = [y] := by
                  have := h2.length
                  match ys, this with
                  | [y], _ => exact ⟨y, rfl⟩
                cases h2 with | ptr _ _ a hn' hl' _ =>
                rw [hl' _ hc]
              subst hF; subst hC
              exact sim24_core hr hid hc hd (natsV_some hks) (textsV_some hws) g1 g2 g3 g8 (by simpa using g4) g5 g6 g7 cap
            · cases hsort
          · cases hsort
        · cases hsort
      · cases hsort
    · cases hs
  · cases hs
end Go.Ab

/- sinew/words: Is. -/
namespace Go.Ab
open Go.RowKit Go.Proofs Go.Proofs.Ytmbaebedkobijaa.Hand
set_option linter.unusedVariables false
set_option linter.unusedSimpArgs false
def L (s : ByteArray) : List UInt8 := s.data.toList
theorem L_length (s : ByteArray) : (L s).length = s.size := by unfold L; rw [Array.length_toList]; rfl
/-- The rune at a place: a byte below 128, or one that is no byte of a word; a byte wide where it is below 128. -/
theorem dec (s : ByteArray) (i : Nat) : ((L s).getD i 0).toNat < 128 ∧ Utf8.decode s i = (((L s).getD i 0).toNat, 1) ∨ 128 ≤ ((L s).getD i 0).toNat ∧ oddR (Utf8.decode s i).1 = true := by
  have hb : ∀ x : UInt8, x.toNat < 256 := fun x => UInt8.toNat_lt x
  rw [Lib.decode_N]
  have h : ∀ n : Nat, 128 ≤ n → oddR n = true := by
    intro n hn
    unfold oddR
    have e1 : decide (122 < n) = true := decide_eq_true (by omega)
    have e2 : decide (57 < n) = true := decide_eq_true (by omega)
    have e3 : (n != 45) = true := bne_iff_ne.mpr (by omega)
    have e4 : (n != 58) = true := bne_iff_ne.mpr (by omega)
    rw [e1, e2, e3, e4]; simp
  show ((L s).getD i 0).toNat < 128 ∧ Lib.decodeN ((L s).length - i) ((L s).getD i 0).toNat ((L s).getD (i + 1) 0).toNat ((L s).getD (i + 2) 0).toNat ((L s).getD (i + 3) 0).toNat = _ ∨ _
  rcases Lib.decodeN_shape ((L s).length - i) ((L s).getD i 0).toNat ((L s).getD (i + 1) 0).toNat ((L s).getD (i + 2) 0).toNat ((L s).getD (i + 3) 0).toNat with ⟨h1, h2⟩ | ⟨h1, _, _, h3, h2⟩ | ⟨h1, _, _, _, h3, _, h2⟩ | ⟨h1, _, _, _, _, h3, _, h2⟩ | h2
  · exact .inl ⟨h1, h2⟩
  · refine .inr ⟨by omega, ?_⟩; show oddR (Lib.decodeN ((L s).length - i) ((L s).getD i 0).toNat ((L s).getD (i + 1) 0).toNat ((L s).getD (i + 2) 0).toNat ((L s).getD (i + 3) 0).toNat).1 = true; rw [h2]; exact h _ h3
  · refine .inr ⟨by omega, ?_⟩; show oddR (Lib.decodeN ((L s).length - i) ((L s).getD i 0).toNat ((L s).getD (i + 1) 0).toNat ((L s).getD (i + 2) 0).toNat ((L s).getD (i + 3) 0).toNat).1 = true; rw [h2]; exact h _ (by omega)
  · refine .inr ⟨by omega, ?_⟩; show oddR (Lib.decodeN ((L s).length - i) ((L s).getD i 0).toNat ((L s).getD (i + 1) 0).toNat ((L s).getD (i + 2) 0).toNat ((L s).getD (i + 3) 0).toNat).1 = true; rw [h2]; exact h _ (by omega)
  · by_cases c : ((L s).getD i 0).toNat < 128
    · refine .inl ⟨c, ?_⟩; unfold Lib.decodeN; rw [if_pos c]
    · refine .inr ⟨by omega, ?_⟩; show oddR (Lib.decodeN ((L s).length - i) ((L s).getD i 0).toNat ((L s).getD (i + 1) 0).toNat ((L s).getD (i + 2) 0).toNat ((L s).getD (i + 3) 0).toNat).1 = true; rw [h2]; exact h _ (by decide)
/-- Is a byte none of a word? -/
def oddB (b : UInt8) : Bool := oddR b.toNat
theorem odd_great (b : UInt8) (h : 128 ≤ b.toNat) : oddB b = true := by
  unfold oddB oddR
  have e1 : decide (122 < b.toNat) = true := decide_eq_true (by omega)
  have e2 : decide (57 < b.toNat) = true := decide_eq_true (by omega)
  have e3 : (b.toNat != 45) = true := bne_iff_ne.mpr (by omega)
  have e4 : (b.toNat != 58) = true := bne_iff_ne.mpr (by omega)
  rw [e1, e2, e3, e4]; simp
theorem idx_any (s : ByteArray) : ∀ (f i : Nat), s.size - i ≤ f → decide (0 ≤ Lib.idxFuncFrom oddR true s f i) = ((L s).drop i).any oddB := by
  have hl := L_length s
  intro f
  induction f with
  | zero =>
    intro i hi
    rw [List.drop_of_length_le (by omega)]
    rfl
  | succ f ih =>
    intro i hi
    rw [Lib.idxFuncFrom]
    by_cases c : i < s.size
    · rw [if_pos c, List.drop_eq_getElem_cons (show i < (L s).length by omega), List.any_cons]
      have e : (L s).getD i 0 = (L s)[i]'(by omega) := by simp [List.getD, show i < (L s).length by omega]
      rcases dec s i with ⟨h1, h2⟩ | ⟨h1, h2⟩
      · rw [h2, e]
        by_cases p : oddR ((L s)[i]'(by omega)).toNat = true
        · rw [if_pos p]
          show _ = (oddR _ || _)
          rw [p]
          simp
        · rw [if_neg p]
          show _ = (oddR _ || _)
          rw [Bool.eq_false_iff.mpr p, Bool.false_or]
          exact ih (i + 1) (by omega)
      · rw [if_pos h2]
        rw [e] at h1
        rw [odd_great _ h1]
        simp
    · rw [if_neg c, List.drop_of_length_le (by omega)]
      rfl
theorem is_f (s : ByteArray) : words_Is.f s = some ((decide (s.size ≠ 0) && decide (s.size ≤ 16)) && !((L s).any oddB)) := by
  unfold words_Is.f Lib.idxFunc
  rw [idx_any s s.size 0 (by omega), List.drop_zero]
/-- Is a text a word? -/
def isW (s : List UInt8) : Bool := (decide (s.length ≠ 0) && decide (s.length ≤ 16)) && !(s.any oddB)
def a9 : Fn := fun args st => match args with | [.str s] => some (.ret (.bool (isW s)), st) | _ => none
theorem simA9 : Sim Try.prog 9 a9 := by
  refine Sim.strB isW (by kernel_rfl) fun s w => ?_
  refine words_Is.calls ⟨s.toArray⟩ (isW s) w ?_
  rw [is_f]
  unfold isW L
  simp [ByteArray.size]
noncomputable def s9 : Fn := sealF a9
noncomputable def s24 : Fn := sealF a24
theorem sim9 : Sim Try.prog 9 s9 := simA9.sealed
theorem sim24 : Sim Try.prog 24 s24 := simA24.sealed
theorem is_s (s : List UInt8) (st : St) : s9 [.str s] st = some (.ret (.bool (isW s)), st) := by unfold s9; rw [sealF_eq]; rfl
theorem sort_s (args : List V) (st : St) : s24 args st = a24 args st := by unfold s24; rw [sealF_eq]
end Go.Ab
