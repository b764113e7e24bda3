import Derived.Test.YtmbaebedkobijaaAbOp10
/- strings.Builder: made; its bytes as a string. -/
namespace Go.Ab
open Go.RowKit
set_option linter.unusedVariables false
set_option linter.unusedSimpArgs false

/-- Is it strings.Builder? (its form) -/
def isBld (P : Program) (t : TypeId) : Bool :=
  match P.underlying t with
  | some (.struct fs) => (match fs.toList with
    | [f0, f1] => (match P.underlying f0.type, sle P f1.type with
      | some (.pointer u), some x0 => Nat.beq u t && Nat.beq x0 5
      | _, _ => false)
    | _ => false)
  | _ => false
def A.newB (t : Nat) (z : V) (st : St) (K : V → St → Res) : Res :=
  match z with
  | .agg [.ptr0, .lst [] 1] => K (.ptr st.n 0) (st.new (.cells [.bld t, .buf [] 1]))
  | _ => none
theorem constV_newB {z : Value} (h : constV z = some (.agg [.ptr0, .lst [] 1])) : z = .agg #[.pointer none, .slice none 0 0] := by
  have e0 : E := ⟨⟨fun _ => none, 0, fun _ => none, 0⟩, default, fun _ => 0, fun _ => none, fun _ => 0⟩
  have hr := constV_sound (e := e0) h
  cases hr with
  | agg cs A ho h1 _ =>
    obtain ⟨l, rfl⟩ : ∃ l : List Value, A = l.toArray := ⟨A.toList, by simp⟩
    simp only [List.toList_toArray] at h1
    cases h1 with
    | ptr0 h2 =>
      cases h2 with
      | lst0 _ _ h3 => cases h3; rfl
      | lste _ _ ht _ => exact absurd rfl ht.1
      | lst _ _ len cap b o sz c ty fz hlen hcap hb hsz ho2 hf hc hx ht _ => exact (hx.1 rfl).elim
theorem newB_sound {P : Program} {W0 : World} {B : Nat} {e : E} {K : V → St → Res} {r : Out × St} {t : TypeId} {v : V} {old : Value} (hz : zeroV P t = some v)
    (h : A.newB t v e.st K = some r) (hr : Rel W0 B e) : Step P W0 B e (Instr.alloc t true old) K r := by
  unfold A.newB at h
  split at h
  · obtain ⟨i, z, hi, hiz, hc⟩ := zeroV_some hz
    have := constV_newB hc
    subst this
    have hnew : ∀ o', e.st.ob e.st.n = some o' → False := fun o' ho' => by have := (hr.live _ _ ho').1; omega
    refine ⟨_, .pointer (some ⟨e.w.heap.size, 0, none⟩), e.newOb (.cells [.bld t, .buf [] 1]) (.cells #[.pointer none, .slice none 0 0] t (0, 0)), h, ?_, Ext.newOb e _ _ hnew, hr.newOb _ _ ?_ ?_, ?_⟩
    · simp [Instr.alloc, newVar, newRow, E.newOb, zeroValue, typeInfo, hi, hiz, Value.cells]
    · intro cs hcs; cases hcs
      refine ⟨?_, _, t, (0, 0), rfl, fun i _ _ => by simp, by simp, ?_, ?_⟩
      · intro v hv
        simp only [List.mem_cons, List.not_mem_nil, or_false] at hv
        rcases hv with rfl | rfl <;> rfl
      · exact .bld t none (.buf0 1 (by omega) .nil)
      · intro k x hx
        cases hx
        exact ⟨rfl, rfl, .inl rfl⟩
    · intro es hes; cases hes
    · exact .ptr _ _ _ (Nat.lt_succ_self _) (fun o ho => by simp [E.newOb]) .nil
  · cases h

def A.sdata (x : V) (K : V → Res) : Res := match x with | .buf s t => K (.bptr s t) | _ => none
theorem sdata_sound {P : Program} {W0 : World} {B : Nat} {e : E} {K : V → St → Res} {r : Out × St} {ts : Array TypeId} {ty : TypeId} {x : V} {x' : Value}
    (h : A.sdata x (fun v => K v e.st) = some r) (hr : Rel W0 B e) (hx : Rs e [x] [x']) : Step P W0 B e (Builtin.unsafeSliceData_ ts ty #[x']) K r := by
  unfold A.sdata at h
  split at h
  · rename_i s t
    cases hx with
    | buf0 _ _ _ => exact Step.pure hr h (Lib.run_unsafeSliceData_nil _ ts ty 0 0) (.bptr0 _ none .nil)
    | buf _ _ cap b o c fz h0 hcap hb hf hc h1 ht _ =>
      have : s.length ≠ 0 := by simpa using h0
      exact Step.pure hr h (Lib.run_unsafeSliceData_row _ ts ty _ _ cap (by omega)) (.bptr s t b o c fz ⟨h0, h1.2⟩ hb hf hc (fun g => ⟨(ht g).1, fun s' hs' => ⟨((ht g).2 s' hs').1, ((ht g).2 s' hs').2.1⟩⟩) .nil)
  · cases h

/-- A block that nothing may write is frozen. -/
def E.frz (e : E) (b n : Nat) : E := { e with w := e.w.freeze ⟨b, 0, none⟩ n }
theorem freeze_other {w : World} {b j n : Nat} (h : j ≠ b) : (w.freeze ⟨b, 0, none⟩ n).heap[j]? = w.heap[j]? := by
  unfold World.freeze
  split
  · rfl
  · simp only [Array.getElem?_modify]
    rw [if_neg (by simpa using Ne.symm h)]
theorem freeze_here {w : World} {b n : Nat} {c : Array Value} {ty : TypeId} {fz : Nat × Nat} (h : w.heap[b]? = some (.cells c ty fz)) : ∃ fz', (w.freeze ⟨b, 0, none⟩ n).heap[b]? = some (.cells c ty fz') := by
  unfold World.freeze
  split
  · exact ⟨fz, h⟩
  · simp only [Array.getElem?_modify, if_true, h]
    exact ⟨_, rfl⟩
theorem freeze_size {w : World} {b n : Nat} : (w.freeze ⟨b, 0, none⟩ n).heap.size = w.heap.size := by
  unfold World.freeze
  split <;> simp
theorem Ext.frz (e : E) (b n : Nat) : Ext e (e.frz b n) := by
  refine ⟨Nat.le_refl _, Nat.le_refl _, fun _ _ => rfl, fun _ _ o h => ⟨o, h⟩, fun _ _ => rfl, fun _ _ _ h => h, fun _ => Nat.le_refl _, fun j c ty fz h => ?_⟩
  by_cases hj : j = b
  · subst hj
    obtain ⟨fz', g⟩ := freeze_here (n := n) h
    exact ⟨c, fz', g, rfl, fun _ _ => rfl⟩
  · exact ⟨c, fz, (freeze_other hj).trans h, rfl, fun _ _ => rfl⟩
theorem Rel.frz {W0 : World} {B : Nat} {e : E} (h : Rel W0 B e) {b n : Nat} {c0 : Array Value} {ty0 : TypeId} {fz0 : Nat × Nat} (hb : e.w.heap[b]? = some (.cells c0 ty0 fz0)) (hB : B ≤ b) (h1 : ∀ t s k', e.st.tk t = some s → e.τ t ≠ some (b, k')) (h2 : ∀ id o, e.st.ob id = some o → e.σ id ≠ b) : Rel W0 B (e.frz b n) := by
  have X := Ext.frz e b n
  refine ⟨Lib.below_freeze h.below (p := ⟨b, 0, none⟩) hB n, h.hB, fun id cs ho => ?_, fun id es ho => ?_, h.live, h.inj, h.tkn, fun t s j kk ht hτ => ?_, h.tinj, h.tob, fun j c1 ty1 fz1 hj => ?_, fun j hj => ?_⟩
  · obtain ⟨a, b', c, ty, fz, d, f, g, k, kb⟩ := h.cells id cs ho; exact ⟨a, b', c, ty, fz, (freeze_other (h2 id _ ho)).trans d, f, g, k.mono X, kb⟩
  · obtain ⟨a, ents, clock, b', c, d⟩ := h.maps id es ho; exact ⟨a, ents, clock, (freeze_other (h2 id _ ho)).trans b', c.mono X, d.mono X⟩
  · have hjb : j ≠ b := fun e1 => h1 t s kk ht (e1 ▸ hτ)
    obtain ⟨a, b', c, ty, fz, d, f⟩ := h.toks t s j kk ht hτ
    exact ⟨a, b', c, ty, fz, (freeze_other hjb).trans d, f⟩
  · by_cases hjb : j = b
    · subst hjb
      obtain ⟨fz', g⟩ := freeze_here (n := n) hb
      have hj' : (e.w.freeze ⟨j, 0, none⟩ n).heap[j]? = some (.cells c1 ty1 fz1) := hj
      rw [g] at hj'; cases hj'
      exact h.frs j _ _ _ hb
    · have hj' : (e.w.freeze ⟨b, 0, none⟩ n).heap[j]? = some (.cells c1 ty1 fz1) := hj
      rw [freeze_other hjb] at hj'; exact h.frs j c1 ty1 fz1 hj'
  · have hj' : (e.w.freeze ⟨b, 0, none⟩ n).heap.size ≤ j := hj
    rw [freeze_size] at hj'; exact h.frn j hj'

def ptE (P : Program) (t : TypeId) : Option TypeId := match P.underlying t with | some (.pointer e) => some e | _ => none
/-- unsafe.String: the bytes are not written any more. -/
def A.ustr (x n : V) (st : St) (K : V → St → Res) : Res :=
  match x with
  | .bptr s t => (match n with
    | .int .i64 n => if n = s.length ∧ s.length ≤ 1073741824 then (match t with
      | 0 => none
      | 1 => (match s with | [] => K (.str []) st | _ => none)
      | 2 => none
      | t + 3 => if st.tk t = some 1 then K (.str s) (st.delTk t) else none) else none
    | _ => none)
  | _ => none
theorem ustr_sound {P : Program} {W0 : World} {B : Nat} {e : E} {K : V → St → Res} {r : Out × St} {pt it ty : TypeId} {x n : V} {x' n' : Value} (hp : ptE P pt = some 5) (hc5 : P.cellsOf 5 = 1)
    (h : A.ustr x n e.st K = some r) (hr : Rel W0 B e) (hx : Rs e [x] [x']) (hn : Rs e [n] [n']) : Step P W0 B e (Builtin.unsafeString_ #[pt, it] ty #[x', n']) K r := by
  have hp' : P.underlying pt = some (.pointer 5) := by
    unfold ptE at hp
    split at hp
    · cases hp; assumption
    · cases hp
  unfold A.ustr at h
  split at h
  case h_2 => cases h
  rename_i s t
  split at h
  case h_2 => cases h
  rename_i n
  split at h
  case isFalse => cases h
  rename_i hh
  obtain ⟨rfl, hmax⟩ := hh
  cases hn with
  | int _ _ _ =>
  have nil : ∀ (p : Option Addr) (e0 : E), e0.w = e.w → Ext e e0 → Rel W0 B e0 → K (.str []) e0.st = some r → s = [] → x' = .pointer p → Step P W0 B e (Builtin.unsafeString_ #[pt, it] ty #[x', .int .i64 s.length]) K r := by
    intro p e0 hw X R hk hs hx'
    subst hs hx'
    refine ⟨_, .string ⟨#[]⟩, e0, hk, ?_, X, R, .str [] .nil⟩
    rw [hw]
    exact Lib.run_unsafeString_none (P := P) e.w pt it ty p
  split at h
  · cases h
  · split at h
    · cases hx with
      | bptr0 t a _ => exact nil a e rfl (Ext.refl e) hr h rfl rfl
      | bptr s t b o c fz h0 hb hf hc ht _ => exact absurd rfl h0.1
    · cases h
  · cases h
  · rename_i t0
    split at h
    · rename_i htk
      have Xk := Ext.kill e t0
      have Rk := hr.kill t0
      cases hx with
      | bptr0 t a _ => exact nil a (e.kill t0) rfl Xk Rk h rfl rfl
      | bptr s t b o c fz h0 hb hf hc ht _ =>
        obtain ⟨h0, rfl⟩ := h0
        obtain ⟨p1, p2⟩ := ht (by omega)
        obtain ⟨_, r2⟩ := p2 1 (by simpa using htk)
        simp only [Nat.add_sub_cancel, Nat.zero_add] at r2 p1
        obtain ⟨a1, a2, _⟩ := hr.toks t0 _ _ _ htk r2
        have hfs := hr.frs b c 5 fz hb
        rw [List.drop_zero] at hc
        have R2 := Rk.frz (b := b) (n := s.length) hb a1 (by
          intro t2 s2 k2 ht2 hτ2
          obtain ⟨q1, q2⟩ := kill_tk ht2
          exact q1 (hr.tinj t2 t0 _ _ b k2 _ q2 htk hτ2 r2)) (fun id o ho => hr.tob t0 _ _ _ id o htk r2 ho)
        refine ⟨_, .string ⟨s.toArray⟩, (e.kill t0).frz b s.length, h, ?_, Xk.trans (Ext.frz _ b s.length), R2, .str s .nil⟩
        have hsh : e.w.shape? b = some (5, c.size) := by simp [World.shape?, hb]
        rw [Lib.run_unsafeString_row (P := P) e.w pt it ty 5 hp' hc5 b c.size hsh s h0 (by omega) (by omega) (by
          intro j x hj
          rw [add_plain, cell_of hb]
          have : (c.toList.take s.length)[j]? = some (Value.int .u8 x.toNat) := by rw [hc]; simp [bytesW, hj]
          rw [List.getElem?_take] at this
          split at this
          · simpa using this
          · cases this)]
        rfl
    · cases h
end Go.Ab
