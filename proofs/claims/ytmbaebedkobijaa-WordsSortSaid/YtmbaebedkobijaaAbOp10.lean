import Derived.Test.YtmbaebedkobijaaAbOp9
import Derived.Lib.UnsafeStr
/- strings.Builder: its bytes. -/
namespace Go.Ab
open Go.RowKit
set_option linter.unusedVariables false
set_option linter.unusedSimpArgs false

def bytesB : List V → Option (List UInt8)
  | [] => some []
  | v :: vs => match v, bytesB vs with
    | .int .u8 n, some bs => if 0 ≤ n ∧ n < 256 then some (UInt8.ofNat n.toNat :: bs) else none
    | _, _ => none
def bytV (s : List UInt8) : List V := s.map fun b => .int .u8 b.toNat
theorem bytesB_eq : ∀ {l : List V} {s : List UInt8}, bytesB l = some s → l = bytV s
  | [], s, h => by cases h; rfl
  | v :: vs, s, h => by
    unfold bytesB at h
    split at h
    · rename_i n bs hbs
      split at h
      · rename_i hn
        cases h
        rw [bytesB_eq hbs]
        have : (UInt8.ofNat n.toNat).toNat = n.toNat := by
          rw [UInt8.toNat_ofNat']; exact Nat.mod_eq_of_lt (by omega)
        show _ = V.int .u8 ((UInt8.ofNat n.toNat).toNat : Int) :: bytV bs
        rw [this, Int.toNat_of_nonneg hn.1]
      · cases h
    · cases h
theorem bytesB_bytV (s : List UInt8) : bytesB (bytV s) = some s := by
  induction s with
  | nil => rfl
  | cons b s ih =>
    have hb : b.toNat < 256 := b.toNat_lt
    show bytesB (V.int .u8 (b.toNat : Int) :: bytV s) = _
    unfold bytesB
    rw [ih]
    simp only
    rw [if_pos ⟨by omega, by omega⟩, Int.toNat_natCast, UInt8.ofNat_toNat]
theorem bytV_append (s x : List UInt8) : bytV (s ++ x) = bytV s ++ bytV x := by simp [bytV]
theorem bytV_rs {e : E} : ∀ {s : List UInt8} {ws : List Value}, Rs e (bytV s) ws → ws = bytesW s
  | [], ws, h => by cases h; rfl
  | b :: s, ws, h => by
    cases h with
    | int _ _ h' => rw [bytV_rs h']; rfl

def A.appB (sz : Nat) (s : V) (new : Option (List V)) (st : St) (K : V → St → Res) : Res :=
  match s with
  | .buf s t => (match new with
    | some l => (match bytesB l with
      | some x => if s.length + x.length ≤ 1073741824 ∧ sz = 1 then (match t with
          | 0 => none
          | 1 => K (.buf (s ++ x) (st.nt + 3)) (st.newTk 1)
          | 2 => none
          | t + 3 => if st.tk t = some 1 then K (.buf (s ++ x) (st.nt + 3)) ((st.delTk t).newTk 1) else none) else none
      | none => none)
    | none => none)
  | _ => A.app sz s new st K

theorem app_newB {W0 : World} {B : Nat} {e : E} (hr : Rel W0 B e) {s : List UInt8} {cap : Nat} {c : Array Value} {fz : Nat × Nat} (hne : s ≠ []) (hu : unfz c fz s.length) (hcap : s.length ≤ cap) (hc : cap ≤ c.size) (hrs : c.toList.take s.length = bytesW s) :
    ∃ e', e'.st = e.st.newTk 1 ∧ e'.w = { e.w with heap := e.w.heap.push (.cells c 5 fz) } ∧ Ext e e' ∧ Rel W0 B e' ∧ Rs e' [.buf s (e.st.nt + 3)] [.slice (some ⟨e.w.heap.size, 0, none⟩) s.length cap] := by
  have X1 := Ext.lay e (.cells c 5 fz) s.length (hr.frn _ (Nat.le_refl _))
  have R1 := hr.lay c 5 fz s.length (Nat.le_trans hcap hc)
  have hpush : (e.lay (.cells c 5 fz) s.length).w.heap[e.w.heap.size]? = some (.cells c 5 fz) := by
    show (e.w.heap.push _)[e.w.heap.size]? = _; rw [Array.getElem?_push, if_pos rfl]
  have hfr : (e.lay (.cells c 5 fz) s.length).fr e.w.heap.size = s.length := by simp [E.lay]
  have X2 := Ext.tok R1 1 (some (e.w.heap.size, s.length))
  have hlt : ∀ id o', e.st.ob id = some o' → e.σ id < e.w.heap.size := by
    intro id o' ho'
    cases o' with
    | cells cs => obtain ⟨_, _, c, ty, fz, d, _⟩ := hr.cells id cs ho'; exact (Array.getElem?_eq_some_iff.mp d).1
    | map es => obtain ⟨_, ents, clock, d, _⟩ := hr.maps id es ho'; exact (Array.getElem?_eq_some_iff.mp d).1
  have R2 := R1.tok 1 (some (e.w.heap.size, s.length)) (by
    intro b k hp; cases hp
    refine ⟨Nat.le_trans hr.hB hr.below.size, hfr, ⟨c, 5, fz, hpush, hu⟩, ?_, ?_⟩
    · intro t s k' ht hτ
      obtain ⟨_, _, c', ty, fz, d, _⟩ := hr.toks t s _ _ ht hτ
      have := (Array.getElem?_eq_some_iff.mp d).1; omega
    · intro id o hid he
      have := hlt id o hid
      have he' : e.σ id = e.w.heap.size := he
      omega)
  refine ⟨_, rfl, rfl, X1.trans X2, R2, ?_⟩
  refine .buf s _ cap e.w.heap.size 0 c fz hne hcap hpush (by rw [Nat.zero_add]; exact Nat.le_of_eq hfr.symm) (by rw [List.drop_zero]; exact hrs) ⟨by omega, rfl⟩ ?_ .nil
  intro _
  refine ⟨Nat.lt_succ_self _, fun s' hs' => ?_⟩
  have h1 : s' = 1 := by
    rcases tok_tk hs' with ⟨_, g⟩ | ⟨g, _⟩
    · exact g
    · exact absurd rfl g
  refine ⟨h1, ?_, by rw [Nat.zero_add]; exact hc⟩
  show (if e.st.nt = e.st.nt then some (e.w.heap.size, s.length) else _) = _
  rw [if_pos rfl, Nat.zero_add]

theorem bytesW_append (s x : List UInt8) : bytesW (s ++ x) = bytesW s ++ bytesW x := by simp [bytesW]
theorem bytesW_length (s : List UInt8) : (bytesW s).length = s.length := by simp [bytesW]
theorem bytV_length (s : List UInt8) : (bytV s).length = s.length := by simp [bytV]

theorem appB_sound {P : Program} {W0 : World} {B : Nat} {e : E} {K : V → St → Res} {r : Out × St} {t u ty : TypeId} {s x : V} {s' x' : Value} {i : TypeInfo} {z : Value} (hs : sle P t = some 5) (hi : P.info? 5 = some i) (hz : i.zero = some z) (hzs : z.cells.size = i.size) (hb : i.bytes ≤ 65536) (hu : known P u = true) (hu2 : tk P u ≠ 2)
    (h : A.appB (P.cellsOf 5) s (elemsOf (tk P u) (P.cellsOf 5) x e.st) e.st K = some r) (hr : Rel W0 B e) (hsv : Rs e [s] [s']) (hxv : Rs e [x] [x']) : Step P W0 B e (Builtin.append_ #[t, u] ty #[s', x']) K r := by
  unfold A.appB at h
  split at h
  case h_2 => exact app_sound hs hi hz hzs hb hu hu2 h hr hsv hxv
  rename_i s tk0
  split at h
  case h_2 => cases h
  rename_i l hnew
  split at h
  case h_2 => cases h
  rename_i xs hxs
  split at h
  case isFalse => cases h
  rename_i hh
  obtain ⟨hmax, hsz1⟩ := hh
  rw [cellsOf_eq hi] at hsz1
  have hl := bytesB_eq hxs
  subst hl
  rw [cellsOf_eq hi, hsz1] at hnew
  obtain ⟨news, N⟩ := elemsOf_sound (P := P) hnew hr hxv
  have hone : ∀ v ∈ bytV xs, v.one = true := by
    intro v hv; obtain ⟨b, _, rfl⟩ := List.mem_map.mp hv; rfl
  have hnews : news = bytesW xs := by
    have := N.rs
    rw [(flat_ones hone).1] at this
    exact bytV_rs this
  subst hnews
  have hN1 := N.len e.w
  have hN2 := N.run e.w rfl
  have hN3 := N.run e.w.drew rfl
  rw [bytV_length] at hN1 hN2 hN3
  rw [← hsz1] at hN2 hN3
  have arm : ∀ e0 : E, e0.w = e.w → e0.σ = e.σ → e0.τ = e.τ → e0.fr = e.fr → e0.st.ob = e.st.ob → Ext e e0 → Rel W0 B e0 → K (.buf (s ++ xs) (e0.st.nt + 3)) (e0.st.newTk 1) = some r → e0.st.nt = e.st.nt → (∀ t s, e0.st.tk t = some s → e.st.tk t = some s) →
      (∀ t0, tk0 = t0 + 3 → e.st.tk t0 = some 1 ∧ ∀ s, e0.st.tk t0 ≠ some s) → (tk0 = 1 ∨ 3 ≤ tk0) → Step P W0 B e (Builtin.append_ #[t, u] ty #[s', x']) K r := by
    intro e0 hw0 hσ0 hτ0 hfr0 hob0 X0 R0 hK hnt0 htk0 htk hcase
    have outc : ∀ (base : Option Addr) (cap : Nat), s' = .slice base s.length cap → (∀ w2 : World, w2.heap = e.w.heap → (Builtin.firstCells i.size s.length (.slice base s.length cap)).run P w2 = .ok (bytesW s).toArray w2) →
        cap < s.length + xs.length → s ++ xs ≠ [] → Step P W0 B e (Builtin.append_ #[t, u] ty #[s', x']) K r := by
      intro base cap hs' hold hout hne
      subst hs'
      obtain ⟨cap2, hcap2, hrun⟩ := app_out (P := P) (ty := ty) hs hi hz hu hu2 hN1 hN3 (hold e.w.drew rfl) hout hmax hb
      have hsz3 : ((bytesW s).toArray ++ (bytesW xs).toArray ++ Builtin.zeroCells z.cells (cap2 - (s.length + xs.length))).size = cap2 := by
        simp only [Array.size_append, List.size_toArray, bytesW_length, zeroCells_size, hzs, hsz1]
        omega
      have R1 : Rel W0 B e0.drew := R0.drew
      have e1 : ((bytesW s).toArray ++ (bytesW xs).toArray ++ Builtin.zeroCells z.cells (cap2 - (s.length + xs.length))).toList.take (s ++ xs).length = bytesW (s ++ xs) := by
        simp only [Array.toList_append, List.toList_toArray, bytesW_append, List.length_append]
        rw [List.take_append_of_le_length (by simp [bytesW_length]), List.take_of_length_le (by simp [bytesW_length])]
      obtain ⟨e', q1, q2, q3, q4, q5⟩ := app_newB R1 (s := s ++ xs) (cap := cap2) (fz := (0, 0)) hne (fun i _ _ => by simp) (by rw [List.length_append]; exact hcap2) (Nat.le_of_eq hsz3.symm) e1
      rw [List.length_append] at q5
      refine ⟨_, _, e', ?_, ?_, (X0.trans (Ext.drew e0)).trans q3, q4, q5⟩
      · rw [q1]; exact hK
      · rw [hrun, q2]
        simp only [E.drew, hw0]
        rfl
    cases hsv with
    | buf0 _ _ _ =>
      by_cases hn0 : xs = []
      · subst hn0
        obtain ⟨X1, R1⟩ := app_same R0 1
        refine ⟨_, .slice none 0 0, _, hK, ?_, X0.trans X1, R1, .buf0 _ (fun _ => by simp [E.tok, St.newTk]) .nil⟩
        have := app_in (P := P) (ty := ty) (base := none) (n := 0) (cap := 0) hs hi hu hu2 hN1 hN2 (by simp)
        simp only [Result.andThen] at this
        rw [this]
        show _ = Result.ok _ e0.w
        rw [hw0]; rfl
      · have : 0 < xs.length := List.length_pos_iff.2 hn0
        exact outc none 0 rfl (fun w2 _ => by simp [Builtin.firstCells, bytesW]) (by simp; omega) (by simpa using hn0)
    | buf _ _ cap b o c fz h0 hcap hbk hf hc h1 ht1 _ =>
      obtain ⟨h1, rfl⟩ := h1
      have hfs := hr.frs b c 5 fz hbk
      have hne : s ++ xs ≠ [] := by simp [h0]
      by_cases hin : s.length + xs.length ≤ cap
      · have hrunin := app_in (P := P) (ty := ty) (base := some ⟨b, 0, none⟩) (n := s.length) (cap := cap) hs hi hu hu2 hN1 hN2 hin
        have h2 : 3 ≤ tk0 := by omega
        obtain ⟨t0, rfl⟩ : ∃ t0, tk0 = t0 + 3 := ⟨tk0 - 3, by omega⟩
        obtain ⟨g1, g2⟩ := htk t0 rfl
        obtain ⟨p1, p2⟩ := ht1 h2
        obtain ⟨_, r2, r3⟩ := p2 _ (by simpa using g1)
        simp only [Nat.add_sub_cancel, Nat.zero_add] at r2 p1 r3
        rw [List.drop_zero] at hc
        obtain ⟨a1, a2, c1, ty1, fz1, a3, a4⟩ := hr.toks t0 _ _ _ g1 r2
        rw [hbk] at a3; cases a3
        have hnl := bytesW_length xs
        have hbk0 : e0.w.heap[b]? = some (.cells c 5 fz) := by rw [hw0]; exact hbk
        have hk0 : e0.fr b = s.length := by rw [hfr0]; exact a2
        have hpsz := putA_size (bytesW xs) c s.length
        have hpl : (putA c s.length (bytesW xs)).toList = putL c.toList s.length (bytesW xs) := putA_list _ _ _
        have hsame : ∀ j, j < e0.fr b → (putA c s.length (bytesW xs))[j]? = c[j]? := by
          intro j hj
          rw [hk0] at hj
          have := putL_get (bytesW xs) c.toList s.length j hj
          rw [← hpl] at this; simpa using this
        have ntok : ∀ t2 s2 k2, e0.st.tk t2 = some s2 → e0.τ t2 ≠ some (b, k2) := by
          intro t2 s2 k2 ht2 hτ2
          rw [hτ0] at hτ2
          have := hr.tinj t2 t0 _ _ b k2 _ (htk0 _ _ ht2) g1 hτ2 r2
          subst this
          exact g2 _ ht2
        have nob : ∀ id ob, e0.st.ob id = some ob → e0.σ id ≠ b := by
          intro id ob hid
          rw [hob0] at hid; rw [hσ0]
          exact hr.tob t0 _ _ _ id ob g1 r2 hid
        have X1 := Ext.raise (k := s.length + xs.length) hbk0 (by rw [hk0]; omega) hpsz hsame
        have R1 := R0.raise (k := s.length + xs.length) hbk0 (by rw [hk0]; omega) hpsz hsame a1 (by omega) ntok nob
        have X2 := Ext.tok R1 1 (some (b, s.length + xs.length))
        have R2 := R1.tok 1 (some (b, s.length + xs.length)) (by
          intro b1 k1 hp; cases hp
          exact ⟨a1, by simp [E.raise], ⟨_, 5, fz, setBlk_here hbk0, fun j h1 h2 => a4 j (by omega) (by rw [← hpsz]; exact h2)⟩, ntok, nob⟩)
        have X := (X0.trans X1).trans X2
        refine ⟨_, .slice (some ⟨b, 0, none⟩) (s.length + xs.length) cap, _, hK, ?_, X, R2, ?_⟩
        · rw [hrunin]
          simp only [add_plain, hsz1, Nat.mul_one, Nat.zero_add]
          have hrun := storeCells_run (P := P) (bytesW xs) e.w b s.length 0 c 5 fz hbk (fun j h1 h2 => a4 j (by omega) h2) (by omega) (by intro w hw; obtain ⟨y, _, rfl⟩ := List.mem_map.mp hw; rfl)
          rw [Nat.add_zero] at hrun
          rw [hrun]
          simp only [Result.andThen]
          show _ = Result.ok _ (setBlk e0.w b _)
          rw [hw0]
        · rw [← List.length_append]
          refine .buf _ _ cap b 0 _ fz hne (by rw [List.length_append]; exact hin) (setBlk_here hbk0) ?_ ?_ ⟨by omega, rfl⟩ ?_ .nil
          · show _ ≤ (if b = b then _ else _); rw [if_pos rfl, List.length_append]; omega
          · rw [hpl, List.drop_zero, List.length_append, bytesW_append]
            have := putL_behind c.toList 0 s.length (bytesW xs) (by simp; omega)
            rw [Nat.zero_add, List.drop_zero, List.drop_zero, hnl, hc] at this
            exact this
          · intro _
            refine ⟨by simp only [Nat.add_sub_cancel]; exact Nat.lt_succ_self _, fun s2 hs2 => ?_⟩
            have h1 : s2 = 1 := by
              rcases tok_tk hs2 with ⟨_, g⟩ | ⟨g, _⟩
              · exact g
              · exact absurd rfl g
            refine ⟨h1, ?_, by rw [hpsz]; omega⟩
            show (if e0.st.nt = e0.st.nt then some _ else _) = _
            rw [if_pos rfl, Nat.zero_add, List.length_append]
      · refine outc (some ⟨b, 0, none⟩) cap rfl (fun w2 hw2 => ?_) (by omega) hne
        have := loadCells_run (P := P) (w := w2) (o := 0) (n := s.length) (by rw [hw2]; exact hbk) (show 0 + s.length ≤ c.size by omega)
        simp only [Builtin.firstCells, hsz1, Nat.mul_one]; rw [this, hc]
  split at h
  · cases h
  · exact arm e rfl rfl rfl rfl rfl (Ext.refl e) hr h rfl (fun _ _ h => h) (by intro t0 h0; omega) (.inl rfl)
  · cases h
  · rename_i t0
    split at h
    · rename_i htk
      exact arm (e.kill t0) rfl rfl rfl rfl rfl (Ext.kill e t0) (hr.kill t0) h rfl (fun t s hs => (kill_tk hs).2) (by
        intro t1 h1
        have : t1 = t0 := by omega
        subst this
        exact ⟨htk, fun s hs => (kill_tk hs).1 rfl⟩) (.inr (by omega))
    · cases h
end Go.Ab
