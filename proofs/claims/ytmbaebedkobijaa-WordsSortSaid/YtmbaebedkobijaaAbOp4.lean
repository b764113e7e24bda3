import Derived.Test.YtmbaebedkobijaaAbOp3
/- Lists and strings: length, elements, parts. -/
namespace Go.Ab
open Go.RowKit
set_option linter.unusedVariables false
set_option linter.unusedSimpArgs false

def A.lenS (v : V) (K : V → Res) : Res := match v with | .str s => K (.int .i64 s.length) | _ => none
def A.lenL (v : V) (K : V → Res) : Res := match v with | .lst l _ => K (.int .i64 l.length) | .sl _ _ len _ => K (.int .i64 len) | .buf s _ => K (.int .i64 s.length) | _ => none
def A.lenM (v : V) (st : St) (K : V → Res) : Res :=
  match v with
  | .map0 => K (.int .i64 0)
  | .map id => (match st.ob id with | some (.map es) => K (.int .i64 es.length) | _ => none)
  | _ => none
theorem lenS_sound {P : Program} {W0 : World} {B : Nat} {e : E} {K : V → St → Res} {r : Out × St} {t ty : TypeId} {a : V} {a' : Value} {ts : Array TypeId} (ht : ts[0]? = some t) (hk : tk P t = 3)
    (h : A.lenS a (fun v => K v e.st) = some r) (hr : Rel W0 B e) (ha : Rs e [a] [a']) : Step P W0 B e (Builtin.len_ ts ty #[a']) K r := by
  unfold A.lenS at h
  split at h
  · cases ha with | str _ _ =>
    have hz : ∀ s : List UInt8, (⟨s.toArray⟩ : ByteArray).size = s.length := fun s => by show s.toArray.size = s.length; simp
    exact Step.int hr h (by rw [← hz]; simp only [Builtin.len_, ht, List.getElem?_toArray, List.getElem?_cons_zero, Sem.run_bind, run_under (tk_string hk), Result.andThen]; rfl)
  · cases h
theorem lenL_sound {P : Program} {W0 : World} {B : Nat} {e : E} {K : V → St → Res} {r : Out × St} {t ty : TypeId} {a : V} {a' : Value} {ts : Array TypeId} (ht : ts[0]? = some t) (hk : tk P t = 5)
    (h : A.lenL a (fun v => K v e.st) = some r) (hr : Rel W0 B e) (ha : Rs e [a] [a']) : Step P W0 B e (Builtin.len_ ts ty #[a']) K r := by
  obtain ⟨d, hd⟩ := tk_slice hk
  unfold A.lenL at h
  split at h
  · cases ha with
    | lst0 _ _ _ => exact Step.int hr h (by simp [Builtin.len_, ht, run_under hd, goInt])
    | lste _ _ _ _ => exact Step.int hr h (by simp [Builtin.len_, ht, run_under hd, goInt])
    | lst _ _ len cap b o sz c ty2 fz hlen => subst hlen; exact Step.int hr h (by simp [Builtin.len_, ht, run_under hd, goInt])
  · cases ha with
    | sl _ _ _ _ _ _ _ _ _ => exact Step.int hr h (by simp [Builtin.len_, ht, run_under hd, goInt])
  · cases ha with
    | buf0 _ _ _ => exact Step.int hr h (by simp [Builtin.len_, ht, run_under hd, goInt])
    | buf _ _ _ _ _ _ _ _ _ _ _ _ _ => exact Step.int hr h (by simp [Builtin.len_, ht, run_under hd, goInt])
  · cases h
theorem lenM_sound {P : Program} {W0 : World} {B : Nat} {e : E} {K : V → St → Res} {r : Out × St} {t ty : TypeId} {a : V} {a' : Value} {ts : Array TypeId} (ht : ts[0]? = some t) (hk : tk P t = 6)
    (h : A.lenM a e.st (fun v => K v e.st) = some r) (hr : Rel W0 B e) (ha : Rs e [a] [a']) : Step P W0 B e (Builtin.len_ ts ty #[a']) K r := by
  obtain ⟨d, d', hd⟩ := tk_map hk
  unfold A.lenM at h
  split at h
  · cases ha with | map0 _ => exact Step.int hr h (by simp [Builtin.len_, ht, run_under hd, goInt])
  · rename_i id
    split at h
    · rename_i es hes
      cases ha with | map _ r' hn hl _ =>
      have hr' := hl _ hes; subst hr'
      obtain ⟨_, ents, clock, hb, hk1, _⟩ := hr.maps id es hes
      have hl2 : es.length = ents.size := by simpa using hk1.length
      have hg : (getObj (e.σ id)).run P e.w = .ok (.map ents clock) e.w := by simp [getObj, Sem.run, hb]
      exact Step.int hr h (by simp [Builtin.len_, ht, run_under hd, goInt, hg, hl2])
    · cases h
  · cases h

/-- The first element has so many cells (if there is one). -/
def szok (sz : Nat) : List V → Bool
  | [] => true
  | v :: _ => v.cells.length == sz

def arr (P : Program) (t : TypeId) : Option (Nat × TypeId) := match P.underlying t with | some (.array n e) => some (n, e) | _ => none
def sle (P : Program) (t : TypeId) : Option TypeId := match P.underlying t with | some (.slice e) => some e | _ => none
theorem arr_some {P : Program} {t : TypeId} {n : Nat} {x : TypeId} (h : arr P t = some (n, x)) : P.underlying t = some (.array n x) := by
  unfold arr at h; split at h
  · cases h; assumption
  · cases h
theorem sle_some {P : Program} {t : TypeId} {x : TypeId} (h : sle P t = some x) : P.underlying t = some (.slice x) := by
  unfold sle at h; split at h
  · cases h; assumption
  · cases h

/-- The place of an element of a slice. -/
def A.iaddr (sz : Nat) (x i : V) (K : V → Res) : Res :=
  match i with
  | .int _ n =>
    if 0 ≤ n then
      (match x with
       | .sl id off len sz' => if n < len ∧ sz' = sz then K (.ptr id (off + n.toNat * sz)) else none
       | .lst l _ => (match l[n.toNat]? with | some v => if v.cells.length = sz then K (.lptr v.cells) else none | none => none)
       | _ => none)
    else none
  | _ => none
/-- .. of an array. -/
def A.iaddrA (len sz : Nat) (x i : V) (K : V → Res) : Res :=
  match i with
  | .int _ n =>
    if 0 ≤ n ∧ n < len then
      (match x with
       | .ptr id off => K (.ptr id (off + n.toNat * sz))
       | .lptr cs => if n.toNat * sz ≤ cs.length then K (.lptr (cs.drop (n.toNat * sz))) else none
       | _ => none)
    else none
  | _ => none

theorem flat_drop (l : List V) (sz : Nat) (h : ∀ v ∈ l, v.cells.length = sz) : ∀ i, (flat l).drop (i * sz) = flat (l.drop i) := by
  induction l with
  | nil => intro i; simp [flat]
  | cons v l ih =>
    intro i
    cases i with
    | zero => simp
    | succ i =>
      have hv := h v (by simp)
      rw [show flat (v :: l) = v.cells ++ flat l from rfl, List.drop_succ_cons, ← ih (fun x hx => h x (List.mem_cons_of_mem _ hx)) i]
      rw [show (i + 1) * sz = v.cells.length + i * sz by rw [hv, Nat.succ_mul]; omega, ← List.drop_drop, List.drop_left]
theorem flat_take (l : List V) (sz : Nat) (h : ∀ v ∈ l, v.cells.length = sz) : ∀ i, (flat l).take (i * sz) = flat (l.take i) := by
  induction l with
  | nil => intro i; simp [flat]
  | cons v l ih =>
    intro i
    cases i with
    | zero => simp [flat]
    | succ i =>
      have hv := h v (by simp)
      rw [show flat (v :: l) = v.cells ++ flat l from rfl, List.take_succ_cons, show flat (v :: l.take i) = v.cells ++ flat (l.take i) from rfl, ← ih (fun x hx => h x (List.mem_cons_of_mem _ hx)) i]
      rw [show (i + 1) * sz = v.cells.length + i * sz by rw [hv, Nat.succ_mul]; omega, List.take_length_add_append]
theorem flat_length (l : List V) (sz : Nat) (h : ∀ v ∈ l, v.cells.length = sz) : (flat l).length = l.length * sz := by
  induction l with
  | nil => simp [flat]
  | cons v l ih =>
    rw [show flat (v :: l) = v.cells ++ flat l from rfl, List.length_append, ih (fun x hx => h x (List.mem_cons_of_mem _ hx)), h v (by simp), List.length_cons, Nat.succ_mul]; omega
theorem flat_one (l : List V) (sz i : Nat) (v : V) (h : ∀ v ∈ l, v.cells.length = sz) (hv : l[i]? = some v) : ((flat l).drop (i * sz)).take sz = v.cells := by
  rw [flat_drop l sz h i]
  have hi := (List.getElem?_eq_some_iff.mp hv)
  rw [List.drop_eq_getElem_cons hi.1, hi.2, show flat (v :: l.drop (i + 1)) = v.cells ++ flat (l.drop (i + 1)) from rfl]
  have := h v (List.mem_of_getElem? hv)
  rw [← this, List.take_left]
theorem flat_append (l l' : List V) : flat (l ++ l') = flat l ++ flat l' := by simp [flat]

/-- An element of a list that came in, by value: its cells in the block. -/
theorem lst_elem {e : E} {l : List V} {c : Array Value} {o len sz i : Nat} {v : V} (hlen : l.length = len) (hsz : ∀ v ∈ l, v.cells.length = sz) (hc : Rs e (flat l) ((c.toList.drop o).take (len * sz))) (hv : l[i]? = some v) :
    Rs e v.cells ((c.toList.drop (o + i * sz)).take sz) ∧ i * sz + sz ≤ len * sz := by
  have hi := (List.getElem?_eq_some_iff.mp hv).1
  have h1 : i * sz + sz ≤ len * sz := by
    have := Nat.mul_le_mul_right sz (show i + 1 ≤ len by omega)
    rw [Nat.succ_mul] at this; omega
  have := (hc.drop (i * sz)).take sz
  rw [flat_one l sz i v hsz hv, List.drop_take, List.drop_drop, List.take_take, Nat.min_eq_left (by omega)] at this
  exact ⟨this, h1⟩

theorem iaddr_sound {P : Program} {W0 : World} {B : Nat} {e : E} {K : V → St → Res} {r : Out × St} {t x0 : TypeId} {x i : V} {x' i' : Value} (hs : sle P t = some x0) (hi : ∃ i, P.info? x0 = some i)
    (h : A.iaddr (P.cellsOf x0) x i (fun v => K v e.st) = some r) (hr : Rel W0 B e) (hx : Rs e [x] [x']) (hix : Rs e [i] [i']) : Step P W0 B e (Instr.indexAt t x' i') K r := by
  obtain ⟨inf, hi⟩ := hi
  rw [cellsOf_eq hi] at h
  have hu := run_under (P := P) (sle_some hs) e.w
  unfold A.iaddr at h
  split at h
  · rename_i k n
    cases hix with | int _ _ _ =>
    split at h
    · rename_i h0
      split at h
      · rename_i id off len sz'
        split at h
        · rename_i hh
          obtain ⟨h1, rfl⟩ := hh
          cases hx with | sl _ _ _ _ cap a hn hcap hl _ =>
          refine Step.pure hr h (v' := .pointer (some (a.add (n.toNat * inf.size)))) ?_ (.ptr _ _ _ hn (fun o ho => ?_) .nil)
          · simp [Instr.indexAt, asIntOf, hu, h0, h1, sizeOf_run hi]
          · obtain ⟨g, _⟩ := hl o ho (by omega)
            rw [g, add_plain]
        · cases h
      · rename_i l tk0
        split at h
        · rename_i v hv
          split at h
          · rename_i hvs
            have hn' := (List.getElem?_eq_some_iff.mp hv).1
            cases hx with
            | lst0 _ _ _ => simp at hn'
            | lste _ _ _ _ => simp at hn'
            | lst _ _ len cap b o sz c ty2 fz hlen hcap hb hsz ho hf hc hx1 ht1 _ =>
              have hszv : v.cells.length = sz := hsz v (List.mem_of_getElem? hv)
              have : sz = inf.size := by omega
              subst this
              obtain ⟨g1, g2⟩ := lst_elem hlen hsz hc hv
              have h1 : n < (len : Int) := by omega
              refine Step.pure hr h (v' := .pointer (some ⟨b, o + n.toNat * inf.size, none⟩)) ?_ (.lptr _ b _ c ty2 fz hb (by omega) (fun y hy => ho y ?_) (by rw [hszv]; exact g1) .nil)
              · simp [Instr.indexAt, asIntOf, hu, h0, h1, sizeOf_run hi, add_plain]
              · exact List.mem_flatMap.mpr ⟨v, List.mem_of_getElem? hv, hy⟩
          · cases h
        · cases h
      · cases h
    · cases h
  · cases h

theorem iaddrA_sound {P : Program} {W0 : World} {B : Nat} {e : E} {K : V → St → Res} {r : Out × St} {t x0 : TypeId} {len : Nat} {x i : V} {x' i' : Value} (hs : arr P t = some (len, x0)) (hi : ∃ i, P.info? x0 = some i)
    (h : A.iaddrA len (P.cellsOf x0) x i (fun v => K v e.st) = some r) (hr : Rel W0 B e) (hx : Rs e [x] [x']) (hix : Rs e [i] [i']) : Step P W0 B e (Instr.indexAt t x' i') K r := by
  obtain ⟨inf, hi⟩ := hi
  rw [cellsOf_eq hi] at h
  have hu := run_under (P := P) (arr_some hs) e.w
  unfold A.iaddrA at h
  split at h
  · rename_i k n
    cases hix with | int _ _ _ =>
    split at h
    · rename_i h0
      split at h
      · rename_i id off
        cases hx with | ptr _ _ a hn hl _ =>
        refine Step.pure hr h (v' := .pointer (some (a.add (n.toNat * inf.size)))) ?_ (.ptr _ _ _ hn (fun o ho => ?_) .nil)
        · simp [Instr.indexAt, asIntOf, hu, h0, Instr.sureAddr, sizeOf_run hi]
        · rw [hl o ho, add_plain]
      · rename_i cs
        split at h
        · rename_i hle
          cases hx with | lptr _ b o c ty fz hb hf ho hc _ =>
          refine Step.pure hr h (v' := .pointer (some ⟨b, o + n.toNat * inf.size, none⟩)) ?_ (.lptr _ b _ c ty fz hb (by simp; omega) (fun v hv => ho v (List.mem_of_mem_drop hv)) ?_ .nil)
          · simp [Instr.indexAt, asIntOf, hu, h0, Instr.sureAddr, sizeOf_run hi, add_plain]
          · have := hc.drop (n.toNat * inf.size)
            rw [List.drop_take, List.drop_drop] at this
            simpa using this
        · cases h
      · cases h
    · cases h
  · cases h

/-- A byte of a string. -/
def A.idxS (x i : V) (K : V → Res) : Res :=
  match x, i with
  | .str s, .int _ n => if 0 ≤ n then (match s[n.toNat]? with | some b => K (.int .u8 b.toNat) | none => none) else none
  | _, _ => none
theorem idxS_sound {P : Program} {W0 : World} {B : Nat} {e : E} {K : V → St → Res} {r : Out × St} {t : TypeId} {x i : V} {x' i' : Value} (hk : tk P t = 3)
    (h : A.idxS x i (fun v => K v e.st) = some r) (hr : Rel W0 B e) (hx : Rs e [x] [x']) (hix : Rs e [i] [i']) : Step P W0 B e (Instr.index t x' i') K r := by
  unfold A.idxS at h
  split at h
  · rename_i s k n
    cases hx with | str _ _ =>
    cases hix with | int _ _ _ =>
    split at h
    · rename_i h0
      split at h
      · rename_i b hb
        have hb' : (⟨s.toArray⟩ : ByteArray)[n.toNat]? = some b := by
          have hlt := (List.getElem?_eq_some_iff.mp hb)
          rw [getElem?_pos _ _ (by simpa [ByteArray.size] using hlt.1)]
          have : (⟨s.toArray⟩ : ByteArray)[n.toNat]'(by simpa [ByteArray.size] using hlt.1) = b := by
            rw [← hlt.2]; rfl
          rw [this]
        exact Step.int hr h (by simp [Instr.index, asIntOf, run_under (tk_string hk), h0, hb'])
      · cases h
    · cases h
  · cases h

/-- A bound: the operand's, or what stands for it. -/
def bnd (v : Option V) (d : Nat) : Option Nat :=
  match v with
  | none => some d
  | some (.int _ n) => if 0 ≤ n then some n.toNat else none
  | some _ => none

/-- A part of a string. -/
def A.sliceS (x : V) (lo hi : Option V) (K : V → Res) : Res :=
  match x with
  | .str s => (match bnd lo 0, bnd hi s.length with
    | some l, some h => if l ≤ h ∧ h ≤ s.length then K (.str ((s.take h).drop l)) else none
    | _, _ => none)
  | _ => none
/-- A part of a slice. -/
def A.slice (sz : Nat) (x : V) (lo hi mx : Option V) (K : V → Res) : Res :=
  match x with
  | .lst l t => (match bnd lo 0, bnd hi l.length, mx with
    | some a, some b, none => if a ≤ b ∧ b ≤ l.length ∧ szok sz l then K (.lst ((l.take b).drop a) (if b = l.length then t else 0)) else none
    | some a, some b, some m => (match bnd (some m) 0 with
      | some m => if a ≤ b ∧ b ≤ m ∧ m ≤ l.length ∧ szok sz l ∧ hi.isSome then K (.lst ((l.take b).drop a) (if b = m then 2 else 0)) else none
      | none => none)
    | _, _, _ => none)
  | .sl id off len sz' => (match bnd lo 0, bnd hi len, mx with
    | some a, some b, none => if a ≤ b ∧ b ≤ len ∧ sz' = sz then K (.sl id (off + a * sz) (b - a) sz) else none
    | _, _, _ => none)
  | _ => none
/-- A part of an array, as a slice. -/
def A.sliceA (n sz : Nat) (x : V) (lo hi : Option V) (st : St) (K : V → Res) : Res :=
  match x with
  | .ptr id off => (match st.ob id, bnd lo 0, bnd hi n with
    | some (.cells cs), some a, some b => if a ≤ b ∧ b ≤ n ∧ off + n * sz ≤ cs.length then K (.sl id (off + a * sz) (b - a) sz) else none
    | _, _, _ => none)
  | _ => none

inductive Rso (e : E) : Option V → Option Value → Prop where
  | none : Rso e none none
  | some {v : V} {w : Value} (h : Rs e [v] [w]) : Rso e (some v) (some w)

theorem bnd_run {P : Program} {e : E} {v : V} {v' : Value} {d n m : Nat} {c : BoundsCode} (h : bnd (some v) d = some n) (hv : Rs e [v] [v']) (hn : n ≤ m) : (Instr.sliceBound v' m c).run P e.w = .ok n e.w := by
  unfold bnd at h
  split at h
  · rename_i hc; cases hc
  · rename_i k i hh
    cases hh
    split at h
    · rename_i h0
      cases h
      cases hv with | int _ _ _ =>
      have h1 : i ≤ (m : Int) := by omega
      simp [Instr.sliceBound, asIntOf, h0, h1]
    · cases h
  · cases h

theorem bounds_run {P : Program} {e : E} {lo hi : Option V} {lo' hi' : Option Value} {len cap a b : Nat} {sl : Bool} (h1 : bnd lo 0 = some a) (h2 : bnd hi len = some b) (hl : Rso e lo lo') (hh : Rso e hi hi') (hab : a ≤ b) (hb : b ≤ cap) :
    (Instr.sliceBounds sl len cap lo' hi' none).run P e.w = .ok (a, b, cap) e.w := by
  cases hl with
  | none =>
    cases h1
    cases hh with
    | none => cases h2; simp [Instr.sliceBounds]
    | some hv => simp [Instr.sliceBounds, bnd_run (P := P) h2 hv hb]
  | some hw =>
    cases hh with
    | none => cases h2; simp [Instr.sliceBounds, bnd_run (P := P) h1 hw hab]
    | some hv => simp [Instr.sliceBounds, bnd_run (P := P) h2 hv hb, bnd_run (P := P) h1 hw hab]
theorem bounds3_run {P : Program} {e : E} {lo : Option V} {hi mx : V} {lo' : Option Value} {hi' mx' : Value} {len cap a b m : Nat} {sl : Bool} (h1 : bnd lo 0 = some a) (h2 : bnd (some hi) len = some b) (h3 : bnd (some mx) 0 = some m) (hl : Rso e lo lo') (hh : Rs e [hi] [hi']) (hm : Rs e [mx] [mx']) (hab : a ≤ b) (hb : b ≤ m) (hmc : m ≤ cap) :
    (Instr.sliceBounds sl len cap lo' (some hi') (some mx')).run P e.w = .ok (a, b, m) e.w := by
  cases hl with
  | none => cases h1; simp [Instr.sliceBounds, bnd_run (P := P) h2 hh hb, bnd_run (P := P) h3 hm hmc]
  | some hw => simp [Instr.sliceBounds, bnd_run (P := P) h2 hh hb, bnd_run (P := P) h3 hm hmc, bnd_run (P := P) h1 hw hab]

theorem extract_str (s : List UInt8) (a b : Nat) : (⟨s.toArray⟩ : ByteArray).extract a b = ⟨((s.take b).drop a).toArray⟩ := by
  apply ByteArray.ext
  simp [ByteArray.data_extract, List.extract_eq_take_drop, List.drop_take]

theorem sliceS_sound {P : Program} {W0 : World} {B : Nat} {e : E} {K : V → St → Res} {r : Out × St} {t : TypeId} {x : V} {x' : Value} {lo hi : Option V} {lo' hi' : Option Value} (hk : tk P t = 3)
    (h : A.sliceS x lo hi (fun v => K v e.st) = some r) (hr : Rel W0 B e) (hx : Rs e [x] [x']) (hl : Rso e lo lo') (hh : Rso e hi hi') : Step P W0 B e (Instr.sliceAt t x' lo' hi' none) K r := by
  unfold A.sliceS at h
  split at h
  · rename_i s
    cases hx with | str _ _ =>
    split at h
    · rename_i a b h1 h2
      split at h
      · rename_i hh2
        have hu := run_under (P := P) (tk_string hk) e.w
        have hsz : (⟨s.toArray⟩ : ByteArray).size = s.length := by simp [ByteArray.size]
        have := bounds_run (P := P) (sl := false) (cap := s.length) h1 h2 hl hh hh2.1 hh2.2
        exact Step.str hr h (by simp [Instr.sliceAt, hu, Instr.slice, hsz, this, extract_str])
      · cases h
    · cases h
  · cases h

theorem cells_part {c : List Value} {o n x y z : Nat} (h : y ≤ n) (hz : z = y - x) : (((c.drop o).take n).take y).drop x = (c.drop (o + x)).take z := by
  rw [List.take_take, Nat.min_eq_left h, List.drop_take, List.drop_drop, hz]
theorem szok_eq {l : List V} {sz n : Nat} (h : szok n l = true) (hsz : ∀ v ∈ l, v.cells.length = sz) : l = [] ∨ sz = n := by
  cases l with
  | nil => exact .inl rfl
  | cons v l => simp only [szok, beq_iff_eq] at h; exact .inr ((hsz v (by simp)).symm.trans h)

theorem slice_sound {P : Program} {W0 : World} {B : Nat} {e : E} {K : V → St → Res} {r : Out × St} {t x0 : TypeId} {x : V} {x' : Value} {lo hi mx : Option V} {lo' hi' mx' : Option Value} (hs : sle P t = some x0) (hi0 : ∃ i, P.info? x0 = some i)
    (h : A.slice (P.cellsOf x0) x lo hi mx (fun v => K v e.st) = some r) (hr : Rel W0 B e) (hx : Rs e [x] [x']) (hl : Rso e lo lo') (hh : Rso e hi hi') (hm : Rso e mx mx') : Step P W0 B e (Instr.sliceAt t x' lo' hi' mx') K r := by
  obtain ⟨inf, hi0⟩ := hi0
  rw [cellsOf_eq hi0] at h
  have hu := run_under (P := P) (sle_some hs) e.w
  unfold A.slice at h
  split at h
  · rename_i l tok
    split at h
    · rename_i a b h1 h2
      cases hm with
      | none =>
      split at h
      · rename_i hh2
        obtain ⟨g1, g2, g3⟩ := hh2
        cases hx with
        | lst0 _ hb0 _ =>
          simp only [List.length_nil, Nat.le_zero] at g2
          subst g2
          have hb := bounds_run (P := P) (sl := true) (cap := 0) h1 h2 hl hh g1 (Nat.le_refl _)
          have ha : a = 0 := by omega
          subst ha
          simp only [List.length_nil] at hb
          refine Step.pure hr h (v' := .slice none 0 0) ?_ ?_
          · simp [Instr.sliceAt, hu, Instr.slice, sizeOf_run hi0]
            simp [hb]
          · simp; exact .lst0 _ hb0 .nil
        | lste _ ad ht0 _ =>
          simp only [List.length_nil, Nat.le_zero] at g2
          subst g2
          have hb := bounds_run (P := P) (sl := true) (cap := 0) h1 h2 hl hh g1 (Nat.le_refl _)
          have ha : a = 0 := by omega
          subst ha
          simp only [List.length_nil] at hb
          refine Step.pure hr h (v' := .slice (some ad) 0 0) ?_ ?_
          · simp [Instr.sliceAt, hu, Instr.slice, sizeOf_run hi0]
            simp [hb]
          · simp; exact .lste _ ad ht0 .nil
        | lst _ _ len cap blk o sz c ty2 fz hlen hcap hb hsz ho hf hc hx1 ht1 _ =>
          subst hlen
          have hbr := bounds_run (P := P) (sl := true) (cap := cap) h1 h2 hl hh g1 (by omega)
          have hszi : l = [] ∨ sz = inf.size := szok_eq g3 hsz
          have hlen2 : ((l.take b).drop a).length = b - a := by simp; omega
          have hsub : ∀ v ∈ (l.take b).drop a, v ∈ l := fun v hv => List.mem_of_mem_take (List.mem_of_mem_drop hv)
          -- the cells
          have hmul : (b - a) * sz + a * sz = b * sz := by rw [← Nat.add_mul, Nat.sub_add_cancel g1]
          have hbl : b * sz ≤ l.length * sz := Nat.mul_le_mul_right _ g2
          have hcl : Rs e (flat ((l.take b).drop a)) ((c.toList.drop (o + a * sz)).take ((b - a) * sz)) := by
            have := (hc.take (b * sz)).drop (a * sz)
            rw [flat_take l sz hsz, flat_drop _ sz (fun v hv => hsz v (List.mem_of_mem_take hv)), cells_part hbl (show (b - a) * sz = b * sz - a * sz by omega)] at this
            exact this
          have hone : ∀ v ∈ flat ((l.take b).drop a), v.one = true := by
            intro v hv
            obtain ⟨y, hy, hvy⟩ := List.mem_flatMap.mp hv
            exact ho v (List.mem_flatMap.mpr ⟨y, hsub y hy, hvy⟩)
          by_cases hac : cap = a
          · -- the address stays
            have hba : b = a := by omega
            subst hba
            have hle : l.length = b := by omega
            refine Step.pure hr h (v' := .slice (some ⟨blk, o, none⟩) 0 0) ?_ ?_
            · rw [hac, hle] at hbr
              simp [Instr.sliceAt, hu, Instr.slice, sizeOf_run hi0, hac, hle, hbr]
            · have : (l.take b).drop b = [] := List.eq_nil_of_length_eq_zero (by rw [hlen2]; omega)
              rw [this]
              exact .lst [] _ 0 0 blk o sz c ty2 fz rfl (Nat.le_refl _) hb (by simp) (by simp [flat]) (by omega) (by simpa [flat] using Rs.nil) ⟨by rw [if_pos hle.symm]; exact hx1.1, fun _ => rfl⟩ (fun h2 => ⟨by
                split at h2
                · rename_i he
                  rw [if_pos he]; exact (ht1 h2).1
                · omega, fun s _ hlt => absurd hlt (by omega)⟩) .nil
          · have haddr : (if cap = a then (⟨blk, o, none⟩ : Addr) else (⟨blk, o, none⟩ : Addr).add (a * inf.size)) = ⟨blk, o + a * sz, none⟩ := by
              rw [if_neg hac, add_plain]
              rcases hszi with hnil | rfl
              · subst hnil; simp only [List.length_nil] at g2; have : a = 0 := by omega
                subst this; simp
              · rfl
            refine Step.pure hr h (v' := .slice (some ⟨blk, o + a * sz, none⟩) (b - a) (cap - a)) ?_ ?_
            · have haddr' := haddr
              rw [if_neg hac] at haddr'
              simp [Instr.sliceAt, hu, Instr.slice, sizeOf_run hi0, hbr, hac, haddr']
            · refine .lst _ _ (b - a) (cap - a) blk (o + a * sz) sz c ty2 fz hlen2 (by omega) hb (fun v hv => hsz v (hsub v hv)) hone (by omega) hcl ?_ ?_ .nil
              · refine ⟨fun h1' => ?_, fun h1' => ?_⟩
                · split at h1'
                  · exact hx1.1 h1'
                  · omega
                · split at h1'
                  · rename_i he
                    have := hx1.2 h1'; omega
                  · omega
              · intro h2'
                split at h2'
                · rename_i he
                  subst he
                  rw [if_pos rfl]
                  obtain ⟨q1, q2⟩ := ht1 h2'
                  refine ⟨q1, fun s hs hlt => ?_⟩
                  obtain ⟨p1, p2, p3⟩ := q2 s hs (by omega)
                  refine ⟨p1, by rw [p2]; congr 2; omega, ?_⟩
                  have : (cap - a) * sz + a * sz = cap * sz := by rw [← Nat.add_mul, Nat.sub_add_cancel (by omega)]
                  omega
                · omega
      · cases h
    · rename_i a b m h1 h2
      split at h
      · rename_i mm h3
        split at h
        · rename_i hh2
          obtain ⟨g1, g2, g3, g4, g5⟩ := hh2
          cases hm with
          | some hm' =>
          cases hh with
          | none => simp at g5
          | some hh' =>
          cases hx with
          | lst0 _ hb0 _ =>
            simp only [List.length_nil, Nat.le_zero] at g3
            subst g3
            have hb := bounds3_run (P := P) (sl := true) (cap := 0) h1 h2 h3 hl hh' hm' g1 g2 (Nat.le_refl _)
            have hb0 : b = 0 := by omega
            have ha : a = 0 := by omega
            subst hb0; subst ha
            simp only [List.length_nil] at hb
            refine Step.pure hr h (v' := .slice none 0 0) ?_ ?_
            · simp [Instr.sliceAt, hu, Instr.slice, sizeOf_run hi0]
              simp [hb]
            · simp; exact .lst0 _ (by omega) .nil
          | lste _ ad ht0 _ =>
            simp only [List.length_nil, Nat.le_zero] at g3
            subst g3
            have hb := bounds3_run (P := P) (sl := true) (cap := 0) h1 h2 h3 hl hh' hm' g1 g2 (Nat.le_refl _)
            have hb0 : b = 0 := by omega
            have ha : a = 0 := by omega
            subst hb0; subst ha
            simp only [List.length_nil] at hb
            refine Step.pure hr h (v' := .slice (some ad) 0 0) ?_ ?_
            · simp [Instr.sliceAt, hu, Instr.slice, sizeOf_run hi0]
              simp [hb]
            · simp; exact .lste _ ad ⟨by omega, by omega⟩ .nil
          | lst _ _ len cap blk o sz c ty2 fz hlen hcap hb hsz ho hf hc hx1 ht1 _ =>
            subst hlen
            have hbr := bounds3_run (P := P) (sl := true) (cap := cap) h1 h2 h3 hl hh' hm' g1 g2 (by omega)
            have hszi : l = [] ∨ sz = inf.size := szok_eq g4 hsz
            have hlen2 : ((l.take b).drop a).length = b - a := by simp; omega
            have hsub : ∀ v ∈ (l.take b).drop a, v ∈ l := fun v hv => List.mem_of_mem_take (List.mem_of_mem_drop hv)
            have hmul : (b - a) * sz + a * sz = b * sz := by rw [← Nat.add_mul, Nat.sub_add_cancel g1]
            have hbl : b * sz ≤ l.length * sz := Nat.mul_le_mul_right _ (by omega)
            have hcl : Rs e (flat ((l.take b).drop a)) ((c.toList.drop (o + a * sz)).take ((b - a) * sz)) := by
              have := (hc.take (b * sz)).drop (a * sz)
              rw [flat_take l sz hsz, flat_drop _ sz (fun v hv => hsz v (List.mem_of_mem_take hv)), cells_part hbl (show (b - a) * sz = b * sz - a * sz by omega)] at this
              exact this
            have hone : ∀ v ∈ flat ((l.take b).drop a), v.one = true := by
              intro v hv
              obtain ⟨y, hy, hvy⟩ := List.mem_flatMap.mp hv
              exact ho v (List.mem_flatMap.mpr ⟨y, hsub y hy, hvy⟩)
            by_cases hac : mm = a
            · have hba : b = a := by omega
              subst hba
              refine Step.pure hr h (v' := .slice (some ⟨blk, o, none⟩) 0 0) ?_ ?_
              · rw [hac] at hbr
                simp [Instr.sliceAt, hu, Instr.slice, sizeOf_run hi0, hbr]
              · have : (l.take b).drop b = [] := List.eq_nil_of_length_eq_zero (by rw [hlen2]; omega)
                rw [this]
                exact .lst [] _ 0 0 blk o sz c ty2 fz rfl (Nat.le_refl _) hb (by simp) (by simp [flat]) (by omega) (by simpa [flat] using Rs.nil) ⟨fun h2 => by split at h2 <;> omega, fun _ => rfl⟩ (fun h2 => by split at h2 <;> omega) .nil
            · have haddr : (⟨blk, o, none⟩ : Addr).add (a * inf.size) = ⟨blk, o + a * sz, none⟩ := by
                rw [add_plain]
                rcases hszi with hnil | rfl
                · subst hnil; simp only [List.length_nil] at g3; have : a = 0 := by omega
                  subst this; simp
                · rfl
              refine Step.pure hr h (v' := .slice (some ⟨blk, o + a * sz, none⟩) (b - a) (mm - a)) ?_ ?_
              · simp [Instr.sliceAt, hu, Instr.slice, sizeOf_run hi0, hbr, hac, haddr]
              · refine .lst _ _ (b - a) (mm - a) blk (o + a * sz) sz c ty2 fz hlen2 (by omega) hb (fun v hv => hsz v (hsub v hv)) hone (by omega) hcl ?_ ?_ .nil
                · refine ⟨fun h1' => by split at h1' <;> omega, fun h1' => ?_⟩
                  split at h1'
                  · rename_i he; omega
                  · omega
                · intro h2'; split at h2' <;> omega
        · cases h
      · cases h
    · cases h
  · rename_i id off len sz'
    split at h
    · rename_i a b h1 h2
      cases hm with
      | none =>
      split at h
      · rename_i hh2
        obtain ⟨g1, g2, rfl⟩ := hh2
        cases hx with
        | sl _ _ _ _ cap ad hn hcap hl2 _ =>
          have hbr := bounds_run (P := P) (sl := true) (cap := cap) h1 h2 hl hh g1 (by omega)
          by_cases hac : cap = a
          · refine Step.pure hr h (v' := .slice (some ad) (b - a) (cap - a)) ?_ (.sl _ _ _ _ _ _ hn (by omega) (fun o ho h0 => by omega) .nil)
            rw [hac] at hbr
            simp [Instr.sliceAt, hu, Instr.slice, sizeOf_run hi0, hbr, hac]
          · refine Step.pure hr h (v' := .slice (some (ad.add (a * inf.size))) (b - a) (cap - a)) ?_ (.sl _ _ _ _ _ _ hn (by omega) (fun o ho h0 => ?_) .nil)
            · simp [Instr.sliceAt, hu, Instr.slice, sizeOf_run hi0, hbr, hac]
            · obtain ⟨q1, c, ty, fz, q2, q3⟩ := hl2 o ho (by omega)
              refine ⟨by rw [q1, add_plain], c, ty, fz, q2, ?_⟩
              have : (cap - a) * inf.size + a * inf.size = cap * inf.size := by rw [← Nat.add_mul, Nat.sub_add_cancel (by omega)]
              omega
      · cases h
    · cases h
  · cases h
end Go.Ab
