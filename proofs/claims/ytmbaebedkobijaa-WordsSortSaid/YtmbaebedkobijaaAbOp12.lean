import Derived.Test.YtmbaebedkobijaaAbOp11
/- Maps: what lies under a key; one more. -/
namespace Go.Ab
open Go.RowKit
set_option linter.unusedVariables false
set_option linter.unusedSimpArgs false

/-- Whether two keys are one. -/
def keq : V → V → Option Bool
  | .str a, .str b => some (decide (a = b))
  | .int k a, .int k' b => if k = k' then some (a == b) else none
  | _, _ => none
/-- Where a key stands (none: nobody knows). -/
def findV (k : V) : List (V × V) → Nat → Option (Option (Nat × V))
  | [], _ => some none
  | x :: es, i => match keq k x.1 with
    | some true => some (some (i, x.2))
    | some false => findV k es (i + 1)
    | none => none
def keyK (P : Program) (t : TypeId) : Bool := match P.underlying t with | some .string => true | some (.int _) => true | _ => false
def fob (o : Option (Option (Nat × V))) (k : Option (Nat × V) → Res) : Res := match o with | some v => k v | none => none
def A.lookup (z : V) (ok : Bool) (m k : V) (st : St) (K : V → Res) : Res :=
  match m with
  | .map0 => (match k with | .str _ | .int _ _ => K (if ok then .tup [z, .bool false] else z) | _ => none)
  | .map id => (match st.ob id with
    | some (.map es) => fob (findV k es 0) fun r => (match r with
      | some (_, v) => K (if ok then .tup [v, .bool true] else v)
      | none => (match k with | .str _ | .int _ _ => K (if ok then .tup [z, .bool false] else z) | _ => none))
    | _ => none)
  | _ => none
def A.mapUpd (m k v : V) (st : St) (K : St → Res) : Res :=
  match m with
  | .map id => (match st.ob id with
    | some (.map es) => fob (findV k es 0) fun r => (match r with
      | some (i, _) => K (st.put id (.map (es.set i (k, v))))
      | none => (match k with | .str _ | .int _ _ => K (st.put id (.map (es ++ [(k, v)]))) | _ => none))
    | _ => none)
  | _ => none
def A.lookupK (b : Bool) (z : V) (ok : Bool) (m k : V) (st : St) (K : V → Res) : Res := if b = true then A.lookup z ok m k st K else none
def A.mapUpdK (b : Bool) (m k v : V) (st : St) (K : St → Res) : Res := if b = true then A.mapUpd m k v st K else none
theorem fob_some {o : Option (Option (Nat × V))} {k : Option (Nat × V) → Res} {r : Out × St} (h : fob o k = some r) : ∃ v, o = some v ∧ k v = some r := by
  cases o with
  | none => cases h
  | some v => exact ⟨v, rfl, h⟩

theorem keyK_some {P : Program} {t : TypeId} (h : keyK P t = true) : P.underlying t = some .string ∨ ∃ k, P.underlying t = some (.int k) := by
  unfold keyK at h
  split at h
  · exact .inl ‹_›
  · exact .inr ⟨_, ‹_›⟩
  · cases h
theorem checkKey_run {P : Program} {w : World} {t : TypeId} (h : keyK P t = true) (b : Bool) (n : Nat) (v : Value) : (Instr.checkKey b (n + 1) t v).run P w = .ok () w := by
  rcases keyK_some h with g | ⟨k, g⟩
  · simp only [Instr.checkKey, Sem.run_bind, run_under g, Result.andThen]; rfl
  · simp only [Instr.checkKey, Sem.run_bind, run_under g, Result.andThen]; rfl
theorem ba_eq (a b : List UInt8) : ((⟨a.toArray⟩ : ByteArray) == ⟨b.toArray⟩) = decide (a = b) := by
  show (a.toArray == b.toArray) = _
  rw [Bool.eq_iff_iff]; simp
/-- Two keys, in the model. -/
theorem sameNow_run {P : Program} {e : E} {t : TypeId} {d : TypeDesc} (hd : P.underlying t = some d) (hk : keyK P t = true) {a b : V} {a' b' : Value} {r : Bool} (h : keq a b = some r) (ha : Rs e [a] [a']) (hb : Rs e [b] [b'])
    (hs : ∀ s, a = .str s → d = .string) (hi : ∀ k n, a = .int k n → ∃ k', d = .int k') : Instr.sameNow d a' b' = some r := by
  unfold keq at h
  split at h
  · cases ha with | str _ _ =>
    cases hb with | str _ _ =>
    have := hs _ rfl
    subst this
    cases h
    show some _ = some _
    rw [ba_eq]
  · cases ha with | int _ _ _ =>
    cases hb with | int _ _ _ =>
    obtain ⟨k', hk'⟩ := hi _ _ rfl
    subst hk'
    split at h
    · rename_i hkk
      cases h
      show (if _ then _ else _) = _
      rw [if_pos hkk]
    · cases h
  · cases h
theorem findNow_run {P : Program} {e : E} {t : TypeId} {d : TypeDesc} (hd : P.underlying t = some d) (hk : keyK P t = true) {k : V} {k' : Value} (hkv : Rs e [k] [k']) (hs : ∀ s, k = .str s → d = .string) (hi : ∀ j n, k = .int j n → ∃ j', d = .int j') :
    ∀ (es : List (V × V)) (ents : List MapEntry) (i : Nat) (r : Option (Nat × V)), findV k es i = some r → Rs e (es.map (·.1)) (ents.map (·.key)) → Rs e (es.map (·.2)) (ents.map (·.val)) →
      ∃ r' : Option (Nat × Value), Instr.findNow d k' ents i = some r' ∧ (match r, r' with
        | none, none => True
        | some (j, v), some (j', v') => j' = j ∧ i ≤ j ∧ j - i < es.length ∧ Rs e [v] [v'] ∧ (∃ x, es[j - i]? = some x ∧ keq k x.1 = some true ∧ x.2 = v)
        | _, _ => False) := by
  intro es
  induction es with
  | nil =>
    intro ents i r h h1 h2
    cases h
    cases ents with
    | nil => exact ⟨none, rfl, trivial⟩
    | cons x l => have := h1.length; simp at this
  | cons x es ih =>
    intro ents i r h h1 h2
    cases ents with
    | nil => have := h1.length; simp at this
    | cons y ents =>
      simp only [List.map_cons] at h1 h2
      obtain ⟨a1, a2⟩ := h1.both
      obtain ⟨b1, b2⟩ := h2.both
      unfold findV at h
      cases hq : keq k x.1 with
      | none => rw [hq] at h; cases h
      | some b =>
      rw [hq] at h
      cases b with
      | true =>
        cases h
        have := sameNow_run hd hk hq hkv a1 hs hi
        refine ⟨some (i, y.val), by unfold Instr.findNow; rw [this], ?_⟩
        exact ⟨rfl, Nat.le_refl _, by simp, b1, x, by simp, hq, rfl⟩
      | false =>
        have := sameNow_run hd hk hq hkv a1 hs hi
        obtain ⟨r', g1, g2⟩ := ih ents (i + 1) r h a2 b2
        refine ⟨r', by unfold Instr.findNow; rw [this]; exact g1, ?_⟩
        cases r with
        | none => cases r' with
          | none => trivial
          | some q => exact g2
        | some p =>
          cases r' with
          | none => exact g2
          | some q =>
            obtain ⟨c1, c2, c3, c4, z, c5, c6, c7⟩ := g2
            refine ⟨c1, by omega, by simp only [List.length_cons]; omega, c4, z, ?_, c6, c7⟩
            rw [show p.1 - i = (p.1 - (i + 1)) + 1 by omega, List.getElem?_cons_succ]; exact c5
theorem keyV_kind {P : Program} {e : E} {t : TypeId} {d : TypeDesc} (hd : P.underlying t = some d) {k : V} {kd : V → Bool} : True := trivial
/-- A key is of its type. -/
def keyT (d : TypeDesc) (k : V) : Bool := match d, k with | .string, .str _ => true | .int _, .int _ _ => true | _, _ => false
theorem keyT_str {d : TypeDesc} {k : V} (h : keyT d k = true) : ∀ s, k = .str s → d = .string := by
  intro s hs; subst hs; unfold keyT at h; split at h
  · rfl
  · rename_i h2; cases h2
  · cases h
theorem keyT_int {d : TypeDesc} {k : V} (h : keyT d k = true) : ∀ j n, k = .int j n → ∃ j', d = .int j' := by
  intro j n hs; subst hs; unfold keyT at h; split at h
  · rename_i h2; cases h2
  · exact ⟨_, rfl⟩
  · cases h
theorem findKey_run {P : Program} {w : World} {e : E} {t : TypeId} {d : TypeDesc} (hd : P.underlying t = some d) (hk : keyK P t = true) {k : V} {k' : Value} (hT : keyT d k = true) (hkv : Rs e [k] [k']) {es : List (V × V)} {ents : List MapEntry} {r : Option (Nat × V)} (h : findV k es 0 = some r) (h1 : Rs e (es.map (·.1)) (ents.map (·.key))) (h2 : Rs e (es.map (·.2)) (ents.map (·.val))) :
    ∃ r' : Option (Nat × Value), (Instr.findKey t k' ents).run P w = .ok r' w ∧ (match r, r' with
        | none, none => True
        | some (j, v), some (j', v') => j' = j ∧ j < es.length ∧ Rs e [v] [v'] ∧ (∃ x, es[j]? = some x ∧ keq k x.1 = some true)
        | _, _ => False) := by
  obtain ⟨r', g1, g2⟩ := findNow_run hd hk hkv (keyT_str hT) (keyT_int hT) es ents 0 r h h1 h2
  refine ⟨r', ?_, ?_⟩
  · simp only [Instr.findKey, Sem.run_bind, run_under hd, Result.andThen, g1, Sem.run_pure]
  · cases r with
    | none => cases r' with
      | none => trivial
      | some q => exact g2
    | some p =>
      cases r' with
      | none => exact g2
      | some q =>
        obtain ⟨c1, c2, c3, c4, z, c5, c6, c7⟩ := g2
        exact ⟨c1, by omega, c4, z, by simpa using c5, c6⟩
theorem zero_run {P : Program} {w : World} {t : TypeId} {z : V} (hz : zeroV P t = some z) (e : E) : ∃ z', (zeroValue t).run P w = .ok z' w ∧ Rs e [z] [z'] := by
  obtain ⟨i, zv, hi, hiz, hc⟩ := zeroV_some hz
  exact ⟨zv, by simp [zeroValue, typeInfo, hi, hiz], constV_sound e hc⟩
def mapT (P : Program) (t : TypeId) : Option (TypeId × TypeId) := match P.underlying t with | some (.map k e) => some (k, e) | _ => none
theorem mapT_some {P : Program} {t k x : TypeId} (h : mapT P t = some (k, x)) : P.underlying t = some (.map k x) := by
  unfold mapT at h; split at h
  · cases h; assumption
  · cases h
def keyB (P : Program) (t : TypeId) (k : V) : Bool := match P.underlying t with | some d => keyT d k | none => false
theorem keyB_some {P : Program} {t : TypeId} {k : V} (h : keyB P t k = true) : ∃ d, P.underlying t = some d ∧ keyT d k = true ∧ keyK P t = true := by
  unfold keyB at h
  split at h
  · rename_i d hd
    refine ⟨d, hd, h, ?_⟩
    unfold keyK; rw [hd]
    unfold keyT at h
    split at h
    · rfl
    · rfl
    · cases h
  · cases h
theorem lookup_sound {P : Program} {W0 : World} {B : Nat} {e : E} {K : V → St → Res} {r : Out × St} {t kt xt : TypeId} {z m k : V} {m' k' : Value} {ok : Bool} (ht : mapT P t = some (kt, xt)) (hz : zeroV P xt = some z) (hk : keyB P kt k = true)
    (h : A.lookup z ok m k e.st (fun v => K v e.st) = some r) (hr : Rel W0 B e) (hm : Rs e [m] [m']) (hkv : Rs e [k] [k']) : Step P W0 B e (Instr.lookup t m' k' ok) K r := by
  have hu := mapT_some ht
  obtain ⟨d, hd, hT, hK⟩ := keyB_some hk
  obtain ⟨z', hz1, hz2⟩ := zero_run (w := e.w) hz e
  have fin : ∀ (v : V) (v' : Value) (b : Bool), Rs e [v] [v'] → K (if ok then .tup [v, .bool b] else v) e.st = some r → (∃ S : Sem Value, Instr.lookup t m' k' ok = S ∧ S.run P e.w = .ok (if ok then .tuple #[v', .bool b] else v') e.w) → Step P W0 B e (Instr.lookup t m' k' ok) K r := by
    rintro v v' b hv hK ⟨S, hS, hrun⟩
    rw [hS]
    refine Step.pure hr hK hrun ?_
    cases ok with
    | true => exact .tup _ _ (Rs.cons hv (.bool b .nil)) .nil
    | false => exact hv
  unfold A.lookup at h
  split at h
  · cases hm with | map0 _ =>
    have h' : K (if ok then .tup [z, .bool false] else z) e.st = some r := by
      split at h
      · exact h
      · exact h
      · cases h
    refine fin z z' false hz2 h' ⟨_, rfl, ?_⟩
    obtain ⟨r', g1, g2⟩ := findKey_run (w := e.w) hd hK hT hkv (es := []) (ents := []) (r := none) rfl .nil .nil
    cases r' with
    | some q => exact absurd g2 (fun h => h)
    | none =>
      simp only [Instr.lookup, Sem.run_bind, run_under hu, Result.andThen, Sem.run_pure, checkKey_run hK]
      rw [g1]
      simp only [Result.andThen, Sem.run_bind, hz1, Sem.run_pure]
  · rename_i id
    split at h
    · rename_i es hes
      cases hm with | map _ ref hn hl _ =>
      have hrr := hl _ hes; subst hrr
      obtain ⟨_, ents, clock, hb, hk1, hk2⟩ := hr.maps id es hes
      have hg : (getObj (e.σ id)).run P e.w = .ok (.map ents clock) e.w := by simp [getObj, Sem.run, hb]
      obtain ⟨q, hq, h⟩ := fob_some h
      obtain ⟨r', g1, g2⟩ := findKey_run (w := e.w) hd hK hT hkv hq hk1 hk2
      cases q with
      | none =>
        cases r' with
        | some q => exact absurd g2 (fun h => h)
        | none =>
          have h' : K (if ok then .tup [z, .bool false] else z) e.st = some r := by
            dsimp only at h
            split at h
            · exact h
            · exact h
            · cases h
          refine fin z z' false hz2 h' ⟨_, rfl, ?_⟩
          simp only [Instr.lookup, Sem.run_bind, run_under hu, Result.andThen, hg, Sem.run_pure, checkKey_run hK, g1, hz1]
      | some p =>
        obtain ⟨j, v⟩ := p
        cases r' with
        | none => exact absurd g2 (fun h => h)
        | some q =>
          obtain ⟨j', v'⟩ := q
          obtain ⟨c1, c2, c3, c4⟩ := g2
          refine fin v v' true c3 h ⟨_, rfl, ?_⟩
          simp only [Instr.lookup, Sem.run_bind, run_under hu, Result.andThen, hg, Sem.run_pure, checkKey_run hK, g1]
    · cases h
  · cases h
theorem Rs.snoc {e : E} {vs : List V} {ws : List Value} {v : V} {w : Value} (h : Rs e vs ws) (k : Rs e [v] [w]) : Rs e (vs ++ [v]) (ws ++ [w]) := Rs.append h k
theorem same_key {e : E} {k k1 : V} {k' k1' : Value} (h : keq k k1 = some true) (hk : Rs e [k] [k']) (h1 : Rs e [k1] [k1']) : Instr.sameBits 10000 k1' k' = true := by
  unfold keq at h
  split at h
  · cases hk with | str _ _ =>
    cases h1 with | str _ _ =>
    simp only [Option.some.injEq, decide_eq_true_eq] at h
    subst h
    show ((_ : ByteArray) == _) = true
    rw [ba_eq]; simp
  · cases hk with | int _ _ _ =>
    cases h1 with | int _ _ _ =>
    split at h
    · rename_i hkk
      simp only [Option.some.injEq, beq_iff_eq] at h
      subst hkk; subst h
      show (_ && _) = true
      simp
    · cases h
  · cases h
theorem mapUpd_sound {P : Program} {W0 : World} {B : Nat} {e : E} {K : St → Res} {r : Out × St} {t kt xt : TypeId} {m k v : V} {m' k' v' : Value} (ht : mapT P t = some (kt, xt)) (hk : keyB P kt k = true)
    (h : A.mapUpd m k v e.st K = some r) (hr : Rel W0 B e) (hm : Rs e [m] [m']) (hkv : Rs e [k] [k']) (hv : Rs e [v] [v']) : StepU P W0 B e (Instr.mapUpdate t m' k' v') K r := by
  have hu := mapT_some ht
  obtain ⟨d, hd, hT, hK⟩ := keyB_some hk
  unfold A.mapUpd at h
  split at h
  · rename_i id
    split at h
    · rename_i es hes
      cases hm with | map _ ref hn hl _ =>
      have hrr := hl _ hes; subst hrr
      obtain ⟨hB, ents, clock, hb, hk1, hk2⟩ := hr.maps id es hes
      have hg : (getObj (e.σ id)).run P e.w = .ok (.map ents clock) e.w := by simp [getObj, Sem.run, hb]
      obtain ⟨q, hq, h⟩ := fob_some h
      obtain ⟨r', g1, g2⟩ := findKey_run (w := e.w) hd hK hT hkv hq hk1 hk2
      have hset : ∀ (x : Obj), (setObj (e.σ id) x).run P e.w = .ok () (setBlk e.w (e.σ id) x) := fun x => by
        simp [setObj, Sem.run, setBlk, hb]
      have h0 := (hr.live id _ hes).2
      have upd : ∀ (es' : List (V × V)) (ents' : Array MapEntry) (clock' : Nat), Rs e (es'.map (·.1)) (ents'.toList.map (·.key)) → Rs e (es'.map (·.2)) (ents'.toList.map (·.val)) → Ext e (e.upd id (.map es') (.map ents' clock')) ∧ Rel W0 B (e.upd id (.map es') (.map ents' clock')) := fun es' ents' clock' a b => by
        refine ⟨Ext.upd ⟨_, hes⟩ hb h0 (by intro c ty fz hc; cases hc), hr.upd ⟨_, hes⟩ hb (by intro c ty fz hc; cases hc) hB (by intro cs hc; cases hc) ?_⟩
        intro es1 he
        cases he
        exact ⟨ents', clock', rfl, a, b⟩
      cases q with
      | none =>
        cases r' with
        | some q => exact absurd g2 (fun h => h)
        | none =>
          have h' : K (e.st.put id (.map (es ++ [(k, v)]))) = some r := by
            dsimp only at h
            split at h
            · exact h
            · exact h
            · cases h
          obtain ⟨u1, u2⟩ := upd (es ++ [(k, v)]) (ents.push { key := k', val := v', born := clock }) (clock + 1) (by simpa using Rs.append hk1 hkv) (by simpa using Rs.append hk2 hv)
          refine ⟨_, h', ?_, u1, u2⟩
          simp only [Instr.mapUpdate, Sem.run_bind, run_under hu, Result.andThen, hg, checkKey_run hK, g1, hset]
          rfl
      | some p =>
        obtain ⟨j, v0⟩ := p
        cases r' with
        | none => exact absurd g2 (fun h => h)
        | some q =>
          obtain ⟨j', v0'⟩ := q
          obtain ⟨c1, c2, c3, x, c4, c5⟩ := g2
          subst c1
          have hx : (es.map (·.1))[j']? = some x.1 := by rw [List.getElem?_map, c4]; rfl
          obtain ⟨y', y1, y2⟩ := hk1.get j' hx
          have hlt : j' < ents.size := by
            have := (List.getElem?_eq_some_iff.mp y1).1
            simpa using this
          have hey : ents[j']? = some ents[j'] := Array.getElem?_eq_getElem hlt
          have hy' : y' = ents[j'].key := by
            rw [List.getElem?_map, Array.getElem?_toList, hey] at y1
            exact (Option.some.inj y1).symm
          have hsb := same_key c5 hkv (hy' ▸ y2)
          have hmod : (ents.modify j' fun e => { e with key := k', val := v' }).toList = ents.toList.set j' { ents[j'] with key := k', val := v' } := by
            apply List.ext_getElem?
            intro i
            rw [Array.getElem?_toList, Array.getElem?_modify, List.getElem?_set]
            by_cases hi : j' = i
            · subst hi
              rw [if_pos rfl, if_pos rfl, hey]
              simp [hlt]
            · rw [if_neg hi, if_neg hi, Array.getElem?_toList]
          obtain ⟨u1, u2⟩ := upd (es.set j' (k, v)) (ents.modify j' fun e => { e with key := k', val := v' }) clock (by rw [hmod, List.map_set, List.map_set]; exact hk1.set j' hkv) (by rw [hmod, List.map_set, List.map_set]; exact hk2.set j' hv)
          refine ⟨_, h, ?_, u1, u2⟩
          have hst : (Instr.keyThatStays (((ents[j']?).map (·.key)).getD k') k').run P e.w = .ok k' e.w := by
            rw [hey]
            simp only [Option.map_some, Option.getD_some, Instr.keyThatStays, hsb, if_true, Sem.run_pure]
          simp only [Instr.mapUpdate, Sem.run_bind, run_under hu, Result.andThen, hg, checkKey_run hK, g1, hst, hset]
          rfl
    · cases h
  · cases h
end Go.Ab
