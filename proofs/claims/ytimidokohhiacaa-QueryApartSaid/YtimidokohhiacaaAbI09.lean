import Derived.Test.YtimidokohhiacaaAbQ09
import Derived.Test.YtimidokohhiacaaAbWrl
import Derived.Test.YtimidokohhiacaaAbSpec
import Derived.Lib.MapLaws
/- sinew/query: strings.ContainsFunc, strings.IndexByte, strings.Join, for the engine. -/
namespace Go.Ab
open Go.RowKit Go.Proofs Go.Shelf
set_option linter.unusedVariables false
set_option linter.unusedSimpArgs false
set_option maxRecDepth 100000
/-- Is a rune none of a word? -/
def oddR (n : Nat) : Bool := ((n < 97 || 122 < n) && (n < 48 || 57 < n)) && n != 45 && n != 58
def L (s : ByteArray) : List UInt8 := s.data.toList
theorem L_length (s : ByteArray) : (L s).length = s.size := by unfold L; rw [Array.length_toList]; rfl
/-- The rune at a place: a byte below 128, or one that is no byte of a word; a byte wide where it is below 128. -/
theorem dec (s : ByteArray) (i : Nat) : ((L s).getD i 0).toNat < 128 ∧ Utf8.decode s i = (((L s).getD i 0).toNat, 1) ∨ 128 ≤ ((L s).getD i 0).toNat ∧ oddR (Utf8.decode s i).1 = true := by
  have hb : ∀ x : UInt8, x.toNat < 256 := fun x => UInt8.toNat_lt x
  rw [Lib.decode_N]
  have h : ∀ n : Nat, 128 ≤ n → oddR n = true := by
    intro n hn
    unfold oddR
    have e1 : decide (122 < n) = true := decide_eq_true (by omega)
    have e2 : decide (57 < n) = true := decide_eq_true (by omega)
    have e3 : (n != 45) = true := bne_iff_ne.mpr (by omega)
    have e4 : (n != 58) = true := bne_iff_ne.mpr (by omega)
    rw [e1, e2, e3, e4]; simp
  show ((L s).getD i 0).toNat < 128 ∧ Lib.decodeN ((L s).length - i) ((L s).getD i 0).toNat ((L s).getD (i + 1) 0).toNat ((L s).getD (i + 2) 0).toNat ((L s).getD (i + 3) 0).toNat = _ ∨ _
  rcases Lib.decodeN_shape ((L s).length - i) ((L s).getD i 0).toNat ((L s).getD (i + 1) 0).toNat ((L s).getD (i + 2) 0).toNat ((L s).getD (i + 3) 0).toNat with ⟨h1, h2⟩ | ⟨h1, _, _, h3, h2⟩ | ⟨h1, _, _, _, h3, _, h2⟩ | ⟨h1, _, _, _, _, h3, _, h2⟩ | h2
  · exact .inl ⟨h1, h2⟩
  · refine .inr ⟨by omega, ?_⟩; show oddR (Lib.decodeN ((L s).length - i) ((L s).getD i 0).toNat ((L s).getD (i + 1) 0).toNat ((L s).getD (i + 2) 0).toNat ((L s).getD (i + 3) 0).toNat).1 = true; rw [h2]; exact h _ h3
  · refine .inr ⟨by omega, ?_⟩; show oddR (Lib.decodeN ((L s).length - i) ((L s).getD i 0).toNat ((L s).getD (i + 1) 0).toNat ((L s).getD (i + 2) 0).toNat ((L s).getD (i + 3) 0).toNat).1 = true; rw [h2]; exact h _ (by omega)
  · refine .inr ⟨by omega, ?_⟩; show oddR (Lib.decodeN ((L s).length - i) ((L s).getD i 0).toNat ((L s).getD (i + 1) 0).toNat ((L s).getD (i + 2) 0).toNat ((L s).getD (i + 3) 0).toNat).1 = true; rw [h2]; exact h _ (by omega)
  · by_cases c : ((L s).getD i 0).toNat < 128
    · refine .inl ⟨c, ?_⟩; unfold Lib.decodeN; rw [if_pos c]
    · refine .inr ⟨by omega, ?_⟩; show oddR (Lib.decodeN ((L s).length - i) ((L s).getD i 0).toNat ((L s).getD (i + 1) 0).toNat ((L s).getD (i + 2) 0).toNat ((L s).getD (i + 3) 0).toNat).1 = true; rw [h2]; exact h _ (by decide)
/-- Is a byte none of a word? -/
def oddB (b : UInt8) : Bool := oddR b.toNat
theorem odd_great (b : UInt8) (h : 128 ≤ b.toNat) : oddB b = true := by
  unfold oddB oddR
  have e1 : decide (122 < b.toNat) = true := decide_eq_true (by omega)
  have e2 : decide (57 < b.toNat) = true := decide_eq_true (by omega)
  have e3 : (b.toNat != 45) = true := bne_iff_ne.mpr (by omega)
  have e4 : (b.toNat != 58) = true := bne_iff_ne.mpr (by omega)
  rw [e1, e2, e3, e4]; simp
theorem idx_any (s : ByteArray) : ∀ (f i : Nat), s.size - i ≤ f → decide (0 ≤ Lib.idxFuncFrom oddR true s f i) = ((L s).drop i).any oddB := by
  have hl := L_length s
  intro f
  induction f with
  | zero =>
    intro i hi
    rw [List.drop_of_length_le (by omega)]
    rfl
  | succ f ih =>
    intro i hi
    rw [Lib.idxFuncFrom]
    by_cases c : i < s.size
    · rw [if_pos c, List.drop_eq_getElem_cons (show i < (L s).length by omega), List.any_cons]
      have e : (L s).getD i 0 = (L s)[i]'(by omega) := by simp [List.getD, show i < (L s).length by omega]
      rcases dec s i with ⟨h1, h2⟩ | ⟨h1, h2⟩
      · rw [h2, e]
        by_cases p : oddR ((L s)[i]'(by omega)).toNat = true
        · rw [if_pos p]
          show _ = (oddR _ || _)
          rw [p]
          simp
        · rw [if_neg p]
          show _ = (oddR _ || _)
          rw [Bool.eq_false_iff.mpr p, Bool.false_or]
          exact ih (i + 1) (by omega)
      · rw [if_pos h2]
        rw [e] at h1
        rw [odd_great _ h1]
        simp
    · rw [if_neg c, List.drop_of_length_le (by omega)]
      rfl

theorem odd_s (x : Nat) (st : St) : s72 [.int .i32 (x : Nat)] st = some (.ret (.bool (oddR x)), st) := by
  rw [s72_eq]
  unfold f72 g72b10_7 g72b10_15
  have e1 : decide ((x : Int) < 97) = decide (x < 97) := decide_eq_decide.mpr (by omega)
  have e2 : decide ((122 : Int) < (x : Int)) = decide (122 < x) := decide_eq_decide.mpr (by omega)
  have e3 : decide ((x : Int) < 48) = decide (x < 48) := decide_eq_decide.mpr (by omega)
  have e4 : decide ((57 : Int) < (x : Int)) = decide (57 < x) := decide_eq_decide.mpr (by omega)
  have e5 : ((x : Int) != 45) = (x != 45) := by rw [Bool.eq_iff_iff]; simp only [bne_iff_ne, ne_eq]; omega
  have e6 : ((x : Int) != 58) = (x != 58) := by rw [Bool.eq_iff_iff]; simp only [bne_iff_ne, ne_eq]; omega
  unfold oddR
  simp only [bin_lss, bin_gtr, eql_int, if_true, e1, e2, e3, e4, e5, e6]
  cases decide (x < 97) <;> cases decide (122 < x) <;> cases decide (x < 48) <;> cases decide (57 < x) <;> cases (x != 45) <;> cases (x != 58) <;> rfl
theorem odd_grows (w : World) : PredGrows Try.prog 72 #[] oddR w := by
  intro W x hx hb
  have := sim72.run W W.heap.size (E0 W) [.int .i32 (x : Nat)] #[.int .i32 (x : Nat)] _ _ (odd_s x St0) (rel0 W) (.int _ _ .nil)
  refine this.mono fun en w' hh => ?_
  obtain ⟨e', _, rfl, _, hr, ho⟩ := hh
  refine ⟨?_, hr.below⟩
  obtain ⟨v', rfl, hv⟩ := ho
  cases hv
  rfl
/-- strings.ContainsFunc, of what is no byte of a word. -/
def a73 : Fn := fun args st => match args with | [.str s, .fn 72 [] []] => some (.ret (.bool (s.any oddB)), st) | _ => none
theorem simu73 : Sim Try.prog 73 a73 := by
  refine ⟨by kernel_rfl, fun W0 B e args cargs out st' hs hr ha => ?_⟩
  unfold a73 at hs
  split at hs
  · rename_i s
    cases hs
    obtain ⟨xs⟩ := cargs
    simp only at ha
    cases ha with | str _ hn =>
    cases hn with | fn _ _ _ F C h1 h2 hn =>
    cases hn
    have hF : F = #[] := by
      apply Array.eq_empty_of_size_eq_zero
      have := h1.length; simpa using this.symm
    have hC : C = #[] := by
      apply Array.eq_empty_of_size_eq_zero
      have := h2.length; simpa using this.symm
    subst hF; subst hC
    have eg : ∀ args w, (callFunc 72 args).run Try.prog w = .ok (.enter 72 args) w := enters_of Try.func72 (by kernel_rfl) rfl
    refine (Try.strings_ContainsFunc_grows 72 #[] eg oddR ⟨s.toArray⟩ e.w (odd_grows e.w)).mono fun en w' hh => ?_
    obtain ⟨he, hb⟩ := hh
    obtain ⟨X, R⟩ := below_step hr hb
    refine ⟨{ e with w := w' }, rfl, rfl, X, R, ⟨_, he, ?_⟩⟩
    have : decide (0 ≤ Lib.idxFunc oddR true ⟨s.toArray⟩) = s.any oddB := by
      unfold Lib.idxFunc
      rw [idx_any ⟨s.toArray⟩ _ 0 (by omega), List.drop_zero]
      simp [L]
    rw [this]
    exact .bool _ .nil
  · cases hs
/-- Where a byte stands first. -/
def idxB : List UInt8 → UInt8 → Nat → Int
  | [], _, _ => -1
  | b :: l, c, i => if b == c then (i : Int) else idxB l c (i + 1)
theorem idxB_eq : ∀ (l : List UInt8) (c : UInt8) (i : Nat), (Lib.indexByte l c = -1 ∧ idxB l c i = -1) ∨ (0 ≤ Lib.indexByte l c ∧ idxB l c i = Lib.indexByte l c + i)
  | [], c, i => .inl ⟨rfl, rfl⟩
  | b :: l, c, i => by
    unfold Lib.indexByte idxB
    by_cases h : (b == c) = true
    · rw [if_pos h, if_pos h]; exact .inr ⟨by omega, by omega⟩
    · rw [if_neg h, if_neg h]
      rcases idxB_eq l c (i + 1) with ⟨h1, h2⟩ | ⟨h1, h2⟩
      · have : (Lib.indexByte l c == -1) = true := by rw [h1]; rfl
        rw [if_pos this]; exact .inl ⟨rfl, h2⟩
      · have : ¬ (Lib.indexByte l c == -1) = true := by rw [beq_iff_eq]; omega
        rw [if_neg this]; exact .inr ⟨by omega, by rw [h2]; omega⟩
/-- strings.IndexByte. -/
def a48 : Fn := fun args st => match args with | [.str s, .int .u8 c] => some (.ret (.int .i64 (idxB s c.toNat.toUInt8 0)), st) | _ => none
theorem simu48 : Sim Try.prog 48 a48 := by
  refine ⟨by kernel_rfl, fun W0 B e args cargs out st' hs hr ha => ?_⟩
  unfold a48 at hs
  split at hs
  · rename_i s c
    cases hs
    obtain ⟨xs⟩ := cargs
    simp only at ha
    cases ha with | str _ hn =>
    cases hn with | int _ _ hn =>
    cases hn
    refine (Try.strings_IndexByte ⟨s.toArray⟩ c e.w).mono fun en w' hh => ?_
    obtain ⟨he, rfl⟩ := hh
    refine ⟨e, rfl, rfl, Ext.refl e, hr, ⟨_, he, ?_⟩⟩
    have : idxB s c.toNat.toUInt8 0 = Lib.indexByte s c.toNat.toUInt8 := by
      rcases idxB_eq s c.toNat.toUInt8 0 with ⟨h1, h2⟩ | ⟨h1, h2⟩ <;> omega
    rw [this]
    exact .int _ _ .nil
  · cases hs
def textsV : List V → Option (List (List UInt8))
  | [] => some []
  | .str s :: l => (match textsV l with | some ks => some (s :: ks) | none => none)
  | _ => none
theorem textsV_some : ∀ {l : List V} {ks : List (List UInt8)}, textsV l = some ks → l = ks.map V.str
  | [], ks, h => by cases h; rfl
  | v :: l, ks, h => by
    unfold textsV at h
    split at h
    · cases ‹_ :: _ = []›
    · rename_i k l' he
      cases he
      split at h
      · rename_i ks' hk
        cases h
        rw [textsV_some hk]; rfl
      · cases h
    · cases h
/-- strings.Join. -/
def a32 : Fn := fun args st => match args with
  | [.lst l _, .str sep] => (match textsV l with
    | some ws => if l.length ≤ 1073741824 ∧ (Lib.join ws sep).length ≤ 140737488355328 then some (.ret (.str (Lib.join ws sep)), st) else none
    | none => none)
  | _ => none
theorem simu32 : Sim Try.prog 32 a32 := by
  refine ⟨by kernel_rfl, fun W0 B e args cargs out st' hs hr ha => ?_⟩
  unfold a32 at hs
  split at hs
  · rename_i l t sep
    split at hs
    · rename_i ws hws
      split at hs
      · rename_i hc
        obtain ⟨c1, c2⟩ := hc
        cases hs
        have hl := textsV_some hws
        obtain ⟨xs⟩ := cargs
        simp only at ha
        obtain ⟨v1, v2, rfl⟩ : ∃ v1 v2, xs = [v1, v2] := by
          have := ha.length
          match xs, this with
          | [v1, v2], _ => exact ⟨v1, v2, rfl⟩
        obtain ⟨q1, q2⟩ := ha.both
        cases q2 with | str _ hn =>
        have none : ∀ (p : Option Addr) (cap : Nat), l = [] → Calls Try.prog 32 #[.slice p 0 cap, .string ⟨sep.toArray⟩] e.w fun en w' => ∃ e', e'.st = e.st ∧ e'.w = w' ∧ Ext e e' ∧ Rel W0 B e' ∧ OutR e' (.ret (.str (Lib.join ws sep))) en := fun p cap h0 => by
          have : ws = [] := by rw [h0] at hl; exact List.map_eq_nil_iff.1 hl.symm
          subst this
          refine (Try.strings_Join_none p cap ⟨sep.toArray⟩ e.w).mono fun en w' hh => ?_
          obtain ⟨he, rfl⟩ := hh
          exact ⟨e, rfl, rfl, Ext.refl e, hr, ⟨_, he, .str [] .nil⟩⟩
        cases q1 with
        | lst0 _ _ _ => exact none _ _ rfl
        | lste _ _ _ _ => exact none _ _ rfl
        | lst _ _ len cap b o sz c ty fz hlen hcap hb hsz ho hf hcv hx ht _ =>
          by_cases h0 : l = []
          · subst h0; cases hlen; exact none _ _ rfl
          have hwl : ws.length = len := by rw [← hlen, hl]; simp
          obtain ⟨s0, hs0⟩ : ∃ s0, s0 ∈ ws := by
            cases ws with
            | nil => rw [hl] at h0; exact absurd rfl h0
            | cons s0 _ => exact ⟨s0, by simp⟩
          have hsz1 : sz = 1 := by
            have := hsz (V.str s0) (by rw [hl]; exact List.mem_map.2 ⟨_, hs0, rfl⟩)
            simpa [V.cells] using this.symm
          subst hsz1
          have hfl : flat l = l := (flat_ones (by rw [hl]; intro v hv; obtain ⟨s, _, rfl⟩ := List.mem_map.1 hv; rfl)).1
          rw [hfl] at hcv
          have hcell : ∀ i (h : i < ws.length), (c[o + i]? : Option Value) = some (.string ⟨(ws[i]).toArray⟩) := by
            intro i hi
            obtain ⟨x, h1, h2⟩ := hcv.get i (v := .str ws[i]) (by rw [hl]; simp [hi])
            rw [List.getElem?_take, if_pos (by omega), List.getElem?_drop, Array.getElem?_toList] at h1
            cases h2 with
            | str _ _ => exact h1
          let xs := ws.map fun s => (⟨s.toArray⟩ : ByteArray)
          have hxl : xs.length = len := by simp [xs, hwl]
          have hxm : xs.map (·.data.toList) = ws := by simp [xs, List.map_map, Function.comp_def]
          have key := Try.strings_Join b o cap xs ⟨sep.toArray⟩ e.w (by
            intro j x hj
            have hjl : j < ws.length := by
              have := (List.getElem?_eq_some_iff.1 hj).1; simpa [xs] using this
            have : x = ⟨(ws[j]).toArray⟩ := by
              rw [List.getElem?_map, List.getElem?_eq_getElem hjl] at hj
              exact (Option.some.inj hj).symm
            subst this
            rw [cell_of hb]
            exact hcell j hjl) (Array.getElem?_eq_some_iff.mp hb).1 (by omega) (by omega) (by rw [hxm]; simpa using c2)
          rw [hxl, hxm] at key
          refine key.mono fun en w' hh => ?_
          obtain ⟨he, hb'⟩ := hh
          obtain ⟨X, R⟩ := below_step hr hb'
          refine ⟨{ e with w := w' }, rfl, rfl, X, R, ⟨_, he, ?_⟩⟩
          exact .str _ .nil
      · cases hs
    · cases hs
  · cases hs
noncomputable def s73 : Fn := sealF a73
theorem sim73 : Sim Try.prog 73 s73 := simu73.sealed
theorem s73_v (s : List UInt8) (st : St) : s73 [.str s, .fn 72 [] []] st = some (.ret (.bool (s.any oddB)), st) := by unfold s73; rw [sealF_eq]; rfl
noncomputable def s48 : Fn := sealF a48
noncomputable def s32 : Fn := sealF a32
theorem sim32 : Sim Try.prog 32 s32 := simu32.sealed
theorem s32_v (args : List V) (st : St) : s32 args st = a32 args st := by unfold s32; rw [sealF_eq]
end Go.Ab
