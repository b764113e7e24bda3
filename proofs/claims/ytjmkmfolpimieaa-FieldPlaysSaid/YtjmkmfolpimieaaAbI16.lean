import Derived.Test.YtjmkmfolpimieaaAbWrl
import Derived.Test.YtjmkmfolpimieaaHiter
import Derived.Sort.Walk0
/- sinew/field: slices.Sorted(maps.Keys(..)), for the engine. -/
namespace Go.Ab
open Go.RowKit Go.Proofs Go.Maps Go.Sort Go.Shelf Go.ChangeMaps
set_option linter.unusedVariables false
set_option linter.unusedSimpArgs false
def E.adopt (e : E) (o : Ob) (g : Nat) : E := { e with st := e.st.new o, σ := fun i => if i = e.st.n then g else e.σ i }
theorem Ext.adopt (e : E) (o : Ob) (g : Nat) : Ext e (e.adopt o g) := by
  refine ⟨Nat.le_succ _, Nat.le_refl _, fun id hi => ?_, fun id hi o' ho' => ?_, fun _ _ => rfl, fun _ _ _ h => h, fun _ => Nat.le_refl _, fun b c ty fz hb => ⟨c, fz, hb, rfl, fun _ _ => rfl⟩⟩
  · simp only [E.adopt]; rw [if_neg (by omega)]
  · simp only [E.adopt, St.new] at ho'; rw [if_neg (by omega)] at ho'; exact ⟨o', ho'⟩
/-- A block that nobody knew becomes an object. -/
theorem Rel.adopt {W0 : World} {B : Nat} {e : E} (h : Rel W0 B e) {cs : List V} {g : Nat} {c : Array Value} {ty : TypeId} {fz : Nat × Nat} (hone : ∀ v ∈ cs, v.one = true) (hb : e.w.heap[g]? = some (.cells c ty fz)) (hB : B ≤ g) (h0 : e.fr g = 0) (hu : unfz c fz 0) (hle : cs.length ≤ c.size) (hrs : Rs e cs (c.toList.take cs.length))
    (hob : ∀ id o, e.st.ob id = some o → e.σ id ≠ g) (htk : ∀ t s b k, e.st.tk t = some s → e.τ t = some (b, k) → b ≠ g) : Rel W0 B (e.adopt (.cells cs) g) := by
  have X := Ext.adopt e (.cells cs) g
  have hobj : ∀ id o', (e.adopt (.cells cs) g).st.ob id = some o' → (id = e.st.n ∧ o' = .cells cs) ∨ (id ≠ e.st.n ∧ e.st.ob id = some o') := by
    intro id o' ho'
    simp only [E.adopt, St.new] at ho'
    by_cases hi : id = e.st.n
    · rw [if_pos hi] at ho'; exact .inl ⟨hi, (Option.some.inj ho').symm⟩
    · rw [if_neg hi] at ho'; exact .inr ⟨hi, ho'⟩
  have hσn : (e.adopt (.cells cs) g).σ e.st.n = g := by simp [E.adopt]
  have hσ : ∀ id, id ≠ e.st.n → (e.adopt (.cells cs) g).σ id = e.σ id := fun id hi => by simp [E.adopt, hi]
  refine ⟨h.below, h.hB, ?_, ?_, ?_, ?_, h.tkn, h.toks, h.tinj, ?_, h.frs, h.frn⟩
  · intro id cs' ho
    rcases hobj id _ ho with ⟨rfl, he⟩ | ⟨hi, ho'⟩
    · cases he
      rw [hσn]
      exact ⟨hB, fun v hv => oneB_of (hone v hv), c, ty, fz, hb, hu, hle, hrs.mono X, bldOK_of hone⟩
    · obtain ⟨a, b, c, ty, fz, d, f, g, k, kb⟩ := h.cells id cs' ho'
      rw [hσ id hi]
      exact ⟨a, b, c, ty, fz, d, f, g, k.mono X, kb⟩
  · intro id es ho
    rcases hobj id _ ho with ⟨rfl, he⟩ | ⟨hi, ho'⟩
    · cases he
    · obtain ⟨a, ents, clock, b, c, d⟩ := h.maps id es ho'
      rw [hσ id hi]
      exact ⟨a, ents, clock, b, c.mono X, d.1.mono X, d.2⟩
  · intro id o' ho
    rcases hobj id _ ho with ⟨rfl, he⟩ | ⟨hi, ho'⟩
    · rw [hσn]; exact ⟨Nat.lt_succ_self _, h0⟩
    · rw [hσ id hi]; exact ⟨Nat.lt_succ_of_lt (h.live _ _ ho').1, (h.live _ _ ho').2⟩
  · intro i j o1 o2 h1 h2 hs
    rcases hobj i _ h1 with ⟨rfl, _⟩ | ⟨hi, h1'⟩ <;> rcases hobj j _ h2 with ⟨rfl, _⟩ | ⟨hj, h2'⟩
    · rfl
    · rw [hσn, hσ j hj] at hs; exact absurd hs.symm (hob j _ h2')
    · rw [hσn, hσ i hi] at hs; exact absurd hs (hob i _ h1')
    · rw [hσ i hi, hσ j hj] at hs; exact h.inj i j _ _ h1' h2' hs
  · intro t s b k id o' ht hτ ho
    rcases hobj id _ ho with ⟨rfl, _⟩ | ⟨hi, ho'⟩
    · rw [hσn]; exact (htk t s b k ht hτ).symm
    · rw [hσ id hi]; exact h.tob t s b k id o' ht hτ ho'
/-- A block that the call has laid, and that is new, becomes an object. -/
theorem below_adopt {W0 : World} {B : Nat} {e : E} {w' : World} (hr : Rel W0 B e) (hb : Below e.w.heap.size e.w w') {cs : List V} {g : Nat} {c : Array Value} {ty : TypeId} {fz : Nat × Nat} (hg : e.w.heap.size ≤ g) (hone : ∀ v ∈ cs, v.one = true) (hbk : w'.heap[g]? = some (.cells c ty fz)) (hu : unfz c fz 0) (hle : cs.length ≤ c.size) (hrs : Rs { e with w := w' } cs (c.toList.take cs.length)) :
    ∃ e', e'.st = e.st.new (.cells cs) ∧ e'.w = w' ∧ e'.σ e.st.n = g ∧ Ext e e' ∧ Rel W0 B e' := by
  obtain ⟨X, R⟩ := below_step hr hb
  have hsz := hr.below.size
  have hBs := hr.hB
  refine ⟨({ e with w := w' } : E).adopt (.cells cs) g, rfl, rfl, by simp [E.adopt], X.trans (Ext.adopt _ _ _), R.adopt hone hbk (by omega) (hr.frn g hg) hu hle hrs ?_ ?_⟩
  · intro id o ho hσ
    have : e.σ id < e.w.heap.size := by
      cases o with
      | cells cs => obtain ⟨_, _, c, ty, fz, d, _⟩ := hr.cells id cs ho; exact (Array.getElem?_eq_some_iff.mp d).1
      | map es => obtain ⟨_, ents, clock, d, _⟩ := hr.maps id es ho; exact (Array.getElem?_eq_some_iff.mp d).1
    have h2 : e.σ id = g := hσ
    omega
  · intro t s b k ht hτ he
    obtain ⟨_, _, c, ty, fz, d, _⟩ := hr.toks t s b k ht hτ
    have := (Array.getElem?_eq_some_iff.mp d).1
    omega
/-- The keys of a map. -/
def keysI : List (V × V) → Option (List Int)
  | [] => some []
  | (.int .i64 k, _) :: l => (match keysI l with | some ks => if -9223372036854775808 ≤ k ∧ k ≤ 9223372036854775807 then some (k :: ks) else none | none => none)
  | _ => none
theorem keysI_some : ∀ {es : List (V × V)} {ks : List Int}, keysI es = some ks → es.map (·.1) = ks.map (V.int .i64) ∧ ∀ k ∈ ks, -9223372036854775808 ≤ k ∧ k ≤ 9223372036854775807
  | [], ks, h => by cases h; exact ⟨rfl, by simp⟩
  | x :: es, ks, h => by
    unfold keysI at h
    split at h
    · cases ‹_ :: _ = []›
    · rename_i k v l he
      cases he
      split at h
      · rename_i ks' hk
        split at h
        · rename_i hc
          cases h
          obtain ⟨h1, h2⟩ := keysI_some hk
          refine ⟨by simp [h1], ?_⟩
          intro k' hk'
          rcases List.mem_cons.1 hk' with rfl | hk'
          · exact hc
          · exact h2 k' hk'
        · cases h
      · cases h
    · cases h
/-- slices.Sorted(maps.Keys(m)) where the keys rise as they stand. -/
def a24 : Fn := fun args st => match args with
  | [.fn 32 [] [.ptr c 0]] => (match st.ob c with
    | some (.cells [.map id]) => (match st.ob id with
      | some (.map es) => (match keysI es with
        | some ks => if ks.length ≤ 1073741824 ∧ ks.Pairwise (· < ·) then (if ks = [] then some (.ret (.lst [] 1), st) else some (.ret (.sl st.n 0 ks.length 1), st.new (.cells (ks.map (V.int .i64))))) else none
        | none => none)
      | _ => none)
    | _ => none)
  | _ => none
theorem sortsA (m : Nat) : AnyZI.SortsIn Try.prog Try.sortedA_ren Fence.wide m :=
  ⟨fun blk off cap ss W hH hblk hsz => callsIn_wide.2 (AnyM.slices_Sort_int Try.sortA blk off cap ss W hH hblk hsz),
   fun p cap W => callsIn_wide.2 (AnyM.slices_Sort_int_none Try.sortA p cap W)⟩
set_option maxHeartbeats 1000000 in
theorem sorted_keys {H : Type} (Bm b nn : Nat) (D0 : DataW H) (R : Value → Option (DataW H × List MemPlace)) (w : World) (hBm : Bm < w.heap.size) (hm : w.cell? ⟨Bm, 0, none⟩ = some (.map (some b))) (hown : w.ownsMap Try.prog 3 R b nn D0) (hmax : Maps.size D0 ≤ maxLen) (hbytes : Maps.size D0 * 8 ≤ 140737488355328) :
    Calls Try.prog 24 #[.func (.func 32) #[] #[.pointer (some ⟨Bm, 0, none⟩)]] w fun e w' => ∃ (v : Value) (ss : List Int), e = .returned v ∧ ss.Perm (intKeys D0) ∧
      w'.ownsRow w.heap.size 3 1 v ss.length ((ss.mergeSort (fun x y => decide (x ≤ y))).map encZ) ∧ (v = .slice none 0 0 ↔ ss = []) ∧ Below w.heap.size w w' := by
  refine (callsIn_wide (n := 5)).1 ?_
  have hseq : SeqGives Fence.wide 2 Try.prog 32 #[.pointer (some ⟨Bm, 0, none⟩)] encZ (fun ss => ss.Perm (intKeys D0)) (Maps.size D0) w :=
    AnyZI.keys_gives (ρ := Try.keysA_ren) { Try.keysA with } Fence.wide _ trivial rfl (by omega) Bm b nn D0 _ hBm hm hown
  have cS := AnyZI.sorted_in Try.sortedA Fence.wide 5 trivial trivial trivial trivial rfl (by omega) (sortsA _) (enters_of Try.func31 (by kernel_rfl) rfl) 32 #[.pointer (some ⟨Bm, 0, none⟩)] trivial (enters_of Try.func32 (by kernel_rfl) rfl) _ _ hmax hbytes w hseq
  change CallsIn _ _ Try.prog 24 _ _ _ at cS
  exact cS
theorem sorted_rise {ks : List Int} (h : ks.Pairwise (· < ·)) {ss : List Int} (hp : ss.Perm ks) : ss.mergeSort (fun x y => decide (x ≤ y)) = ks := by
  have := mergeSort_of_perm_i hp
  unfold leI at this
  rw [this]
  exact List.mergeSort_of_pairwise (h.imp fun h => by simpa using Int.le_of_lt h)
theorem intz_rs {e : E} : ∀ {ks : List Int} {ls : List Value}, Rs e (ks.map (V.int .i64)) ls → ls = ks.map encZ
  | [], ls, h => by cases h; rfl
  | k :: ks, ls, h => by
    cases h with | int _ _ h =>
    rw [intz_rs h]; rfl
theorem heap_lt {w : World} {b : Nat} {x : Obj} (h : w.heap[b]? = some x) : b < w.heap.size := (Array.getElem?_eq_some_iff.mp h).1
theorem simA24 : Sim Try.prog 24 a24 := by
  refine ⟨by kernel_rfl, fun W0 B e args cargs out st' hs hr ha => ?_⟩
  obtain ⟨xs⟩ := cargs
  simp only at ha
  unfold a24 at hs
  split at hs
  · rename_i c
    split at hs
    · rename_i id hc
      split at hs
      · rename_i es hid
        split at hs
        · rename_i ks hks
          split at hs
          · rename_i hcond
            obtain ⟨g1, g2⟩ := hcond
            obtain ⟨v1, rfl⟩ : ∃ v1, xs = [v1] := by
              have := ha.length
              match xs, this with
              | [v1], _ => exact ⟨v1, rfl⟩
            cases ha with | fn _ _ _ F C h1 h2 _ =>
            have hF : F = #[] := by
              apply Array.eq_empty_of_size_eq_zero
              have := h1.length; simpa using this.symm
            have hC : C = #[.pointer (some ⟨e.σ c, 0, none⟩)] := by
              obtain ⟨ys⟩ := C
              simp only at h2
              obtain ⟨y, rfl⟩ : ∃ y, ys = [y] := by
                have := h2.length
                match ys, this with
                | [y], _ => exact ⟨y, rfl⟩
              cases h2 with | ptr _ _ a hn' hl' _ =>
              rw [hl' _ hc]
            subst hF; subst hC
            obtain ⟨b1, b2, cc, bty, bfz, b3, b4, b5, b6, _⟩ := hr.cells c _ hc
            obtain ⟨a1, ents, clock, a2, a3, a4, a5⟩ := hr.maps id es hid
            have hc0 : (cc[0]? : Option Value) = some (.map (some (e.σ id))) := by
              obtain ⟨x, h1, h2⟩ := b6.get 0 (v := .map id) rfl
              rw [List.getElem?_take, if_pos (by simp), Array.getElem?_toList] at h1
              cases h2 with
              | map _ _ hn hl _ => rw [hl _ hid] at h1; exact h1
            obtain ⟨k1, k2⟩ := keysI_some hks
            -- the keys, in the world
            have hkeys : ents.toList.map (·.key) = ks.map encZ := by
              rw [k1] at a3
              exact intz_rs a3
            have hlen : ents.size = ks.length := by
              have := congrArg List.length hkeys
              simpa using this
            let R : Value → Option (DataW Unit × List MemPlace) := fun _ => some (.nil, [])
            have hrd : ∀ x ∈ ents.toList, ∃ k, k ∈ ks ∧ x.key = encZ k := by
              intro x hx
              have : x.key ∈ ents.toList.map (·.key) := List.mem_map.2 ⟨x, hx, rfl⟩
              rw [hkeys] at this
              obtain ⟨k, hk, he⟩ := List.mem_map.1 this
              exact ⟨k, hk, he.symm⟩
            have hkey : ∀ k ∈ ks, keyOf Try.prog 3 (encZ k) = some (.int .i64 k) := by
              intro k hk
              refine keyOf_int_mk Try.underlying3 ?_
              have := k2 k hk
              simp only [Lit.wf, Bool.and_eq_true, decide_eq_true_eq]
              exact this
            have hfit : WideElems.Fit Try.prog 3 R ents clock := by
              refine ⟨by rw [hlen]; unfold maxLen; omega, a5, fun x hx => ?_⟩
              obtain ⟨k, hk, he⟩ := hrd x hx
              refine ⟨(Lit.int .i64 k, .nil), ?_⟩
              unfold WideElems.rd
              rw [he, hkey k hk]
              rfl
            have hrg : ents.toList.map (WideElems.rg Try.prog 3 R) = ks.map fun k => (Lit.int .i64 k, DataW.nil) := by
              have : ents.toList.map (WideElems.rg Try.prog 3 R) = ents.toList.map fun x => (Lit.int .i64 (match x.key with | .int _ k => k | _ => 0), (DataW.nil : DataW Unit)) := by
                refine List.map_congr_left fun x hx => ?_
                obtain ⟨k, hk, he⟩ := hrd x hx
                unfold WideElems.rg WideElems.rd
                rw [he, hkey k hk]
                rfl
              rw [this]
              have h3 : (ents.toList.map fun x => (Lit.int .i64 (match x.key with | .int _ k => k | _ => 0), (DataW.nil : DataW Unit))) = (ents.toList.map (·.key)).map fun v => (Lit.int .i64 (match v with | .int _ k => k | _ => 0), (DataW.nil : DataW Unit)) := by
                rw [List.map_map]; rfl
              rw [h3, hkeys, List.map_map]; rfl
            let D0 : DataW Unit := .map ((ents.toList.map (WideElems.rg Try.prog 3 R)).foldr DataW.insert [])
            have hperm : ((ents.toList.map (WideElems.rg Try.prog 3 R)).foldr DataW.insert []).Perm (ks.map fun k => (Lit.int .i64 k, DataW.nil)) := by
              rw [← hrg]; exact WideShapes.sorted_perm _
            have hsize : Maps.size D0 = ks.length := by
              show List.length _ = _
              rw [hperm.length_eq]; simp
            have hik : (intKeys D0).Perm ks := by
              have := hperm.map (fun p => intOf p.1)
              rw [List.map_map] at this
              have h4 : ks.map ((fun p : Lit × DataW Unit => intOf p.1) ∘ fun k => (Lit.int .i64 k, DataW.nil)) = ks := by
                exact List.map_id _
              rw [h4] at this
              exact this
            refine (sorted_keys (e.σ c) (e.σ id) ents.size D0 R e.w (heap_lt b3) (by rw [cell_of b3]; exact hc0) ⟨ents, clock, a2, hfit, Nat.le_refl _, rfl⟩ (by rw [hsize]; unfold maxLen; omega) (by rw [hsize]; omega)).mono ?_
            rintro en w' ⟨v, ss, rfl, hS, hrow, hnil, hb⟩
            have hss : ss.mergeSort (fun x y => decide (x ≤ y)) = ks := sorted_rise g2 (hS.trans hik)
            have hssl : ss.length = ks.length := (hS.trans hik).length_eq
            rw [hss] at hrow
            obtain ⟨hl, hrow⟩ := hrow
            split at hs
            · -- none
              rename_i he
              cases hs
              have : ss = [] := List.eq_nil_of_length_eq_zero (by rw [hssl, he]; rfl)
              obtain rfl := hnil.2 this
              obtain ⟨X, R2⟩ := below_step hr hb
              exact ⟨{ e with w := w' }, rfl, rfl, X, R2, ⟨_, rfl, .lst0 1 (by omega) .nil⟩⟩
            · rename_i he
              cases hs
              rcases hrow with ⟨rfl, hz⟩ | ⟨g, cap, cur, rfl, hg, hgb, r1, r2, r3, r4⟩
              · exact absurd (List.eq_nil_of_length_eq_zero (by omega)) he
              have rsI : ∀ (e : E) (l : List Int), Rs e (l.map (V.int .i64)) (l.map encZ) := by
                intro e l
                induction l with
                | nil => exact .nil
                | cons k l ih => exact .int _ _ ih
              obtain ⟨e', q1, q2, q3, q4, q5⟩ := below_adopt hr hb (cs := ks.map (V.int .i64)) hg (by intro v hv; obtain ⟨k, _, rfl⟩ := List.mem_map.1 hv; rfl) hgb (by intro i _ _; simp) (by rw [List.length_map]; omega) (by
                rw [List.length_map, show ks.length = ss.length * 1 by omega, r4]; exact rsI _ _)
              refine ⟨e', q1, q2, q4, q5, ⟨_, rfl, ?_⟩⟩
              rw [hssl] at r1 ⊢
              refine .sl _ _ _ _ _ _ (by rw [q1]; exact Nat.lt_succ_self _) r1 (fun o ho h0 => ⟨by rw [q3], cur, 3, (0, 0), by rw [q3, q2]; exact hgb, by omega⟩) .nil
          · cases hs
        · cases hs
      · cases hs
    · cases hs
  · cases hs
theorem simu24 : Sim Try.prog 24 a24 := simA24
noncomputable def s24 : Fn := sealF a24
theorem sim24 : Sim Try.prog 24 s24 := simA24.sealed
theorem sort_s (args : List V) (st : St) : s24 args st = a24 args st := by unfold s24; rw [sealF_eq]
end Go.Ab
