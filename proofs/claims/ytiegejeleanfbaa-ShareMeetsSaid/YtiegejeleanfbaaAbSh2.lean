import Derived.Test.YtiegejeleanfbaaAbSh
/- The plain law of layer 13's routes: cells and their parts. -/
namespace Go.Ab
open Go.RowKit
set_option linter.unusedVariables false
set_option linter.unusedSimpArgs false
namespace Sh13
def rangeI (m : Nat) : List Int := (List.range m).map fun (i : Nat) => (i : Int)
theorem rangeI_succ (m : Nat) : rangeI (m + 1) = rangeI m ++ [(m : Int)] := by simp [rangeI, List.range_succ]
theorem rangeI_mem {m : Nat} {x : Int} : x ∈ rangeI m ↔ 0 ≤ x ∧ x < m := by
  simp only [rangeI, List.mem_map, List.mem_range]
  constructor
  · rintro ⟨i, hi, rfl⟩; omega
  · rintro ⟨h1, h2⟩; exact ⟨x.toNat, by omega, by omega⟩
theorem rangeI_add (a b : Nat) : rangeI (a + b) = rangeI a ++ (rangeI b).map ((a : Int) + ·) := by
  induction b with
  | zero => simp [rangeI]
  | succ b ih => rw [← Nat.add_assoc, rangeI_succ, ih, rangeI_succ]; simp
theorem inO_eq (f s c : Int) : ∀ (m : Nat) (k : Int), inO f s c m k = ((rangeI m).filter fun j => keepB f (k + j)).map fun j => c * s + (k + j)
  | 0, k => by simp [inO, rangeI]
  | m + 1, k => by
    have h := rangeI_add 1 m
    rw [Nat.add_comm 1 m] at h
    rw [h, inO, inO_eq f s c m (k + 1)]
    have h1 : rangeI 1 = [0] := rfl
    rw [h1, List.filter_append, List.map_append, List.filter_map, List.map_map]
    congr 1
    · by_cases hk : keepB f k = true <;> simp [hk]
    · have e1 : (fun j => keepB f (k + 1 + j)) = (fun j => keepB f (k + j)) ∘ (fun x => ((1 : Nat) : Int) + x) := by funext j; simp [Int.add_assoc]
      have e2 : (fun j => c * s + (k + 1 + j)) = (fun j => c * s + (k + j)) ∘ (fun x => ((1 : Nat) : Int) + x) := by funext j; simp [Int.add_assoc]
      rw [e1, e2]
theorem div_digit {c j s : Int} (h0 : 0 ≤ j) (h1 : j < s) : (c * s + j) / s = c ∧ (c * s + j) % s = j := by
  have hs : s ≠ 0 := by omega
  refine ⟨?_, ?_⟩
  · rw [Int.add_comm, Int.add_mul_ediv_right _ _ hs, Int.ediv_eq_zero_of_lt h0 h1, Int.zero_add]
  · rw [Int.add_comm, Int.add_mul_emod_self_right]; exact Int.emod_eq_of_lt h0 h1
theorem stepO_filter {s : Nat} (hs : 1 ≤ s) (f : Int) (Q : Int → Bool) : ∀ (m : Nat), stepO s f ((rangeI m).filter Q) = (rangeI (m * s)).filter fun c => Q (c / s) && keepB f (c % s)
  | 0 => by simp [rangeI, stepO]
  | m + 1 => by
    have ih := stepO_filter hs f Q m
    rw [rangeI_succ, List.filter_append, Nat.succ_mul, rangeI_add, List.filter_append]
    unfold stepO at ih ⊢
    rw [List.flatMap_append, ih]
    congr 1
    rw [List.filter_map]
    have e : ((rangeI s).filter ((fun c => Q (c / s) && keepB f (c % s)) ∘ fun x => ((m * s : Nat) : Int) + x)) = (rangeI s).filter fun j => Q m && keepB f j := by
      apply List.filter_congr
      intro j hj
      have hj := rangeI_mem.1 hj
      have := div_digit (c := m) (s := s) hj.1 hj.2
      show (Q ((((m * s : Nat) : Int) + j) / s) && keepB f ((((m * s : Nat) : Int) + j) % s)) = _
      rw [show ((m * s : Nat) : Int) + j = (m : Int) * s + j by push_cast; rfl, this.1, this.2]
    rw [e]
    by_cases hq : Q m = true
    · simp only [hq, Bool.true_and, List.filter_cons_of_pos, List.filter_nil, List.flatMap_cons, List.flatMap_nil, List.append_nil, Int.toNat_natCast]
      rw [inO_eq]
      simp only [Int.zero_add]
      apply List.map_congr_left
      intro j _
      push_cast; rfl
    · simp only [Bool.not_eq_true] at hq
      simp [hq]
/-- A cell's part of a variable. -/
def dig (sh : List Int) (i : Nat) (c : Int) : Int := c / pr (sh.drop (i + 1)) % sh.getD i 1
theorem outF_filter : ∀ (sh fx : List Int) (m : Nat) (Q : Int → Bool), (∀ x ∈ sh, 1 ≤ x) → fx.length = sh.length →
    outF sh fx ((rangeI m).filter Q) = (rangeI (m * (pr sh).toNat)).filter fun c => Q (c / pr sh) && (List.range sh.length).all fun i => keepB (fx.getD i (-1)) (dig sh i c)
  | [], fx, m, Q, _, hl => by
    have : fx = [] := List.eq_nil_of_length_eq_zero (by simpa using hl)
    subst this
    simp [outF, pr]
  | s :: ss, [], m, Q, _, hl => by simp at hl
  | s :: ss, f :: fs, m, Q, h, hl => by
    have hs := h s (by simp)
    have hss : ∀ x ∈ ss, 1 ≤ x := fun x hx => h x (List.mem_cons_of_mem _ hx)
    have hp := pr_pos hss
    obtain ⟨sn, rfl⟩ : ∃ n : Nat, s = (n : Int) := ⟨s.toNat, by omega⟩
    show outF ss fs (stepO sn f ((rangeI m).filter Q)) = _
    rw [stepO_filter (by omega), outF_filter ss fs (m * sn) _ hss (by simpa using hl)]
    have em : m * sn * (pr ss).toNat = m * (pr (sn :: ss)).toNat := by
      rw [Nat.mul_assoc]; congr 1
      simp only [pr]
      obtain ⟨k, hk⟩ : ∃ k : Nat, pr ss = (k : Int) := ⟨(pr ss).toNat, by omega⟩
      rw [hk, ← Int.natCast_mul, Int.toNat_natCast, Int.toNat_natCast]
    rw [em]
    congr 1
    funext c
    rw [List.length_cons, List.range_succ_eq_map, List.all_cons, List.all_map]
    have e1 : c / pr ss / (sn : Int) = c / pr (sn :: ss) := by
      simp only [pr]; rw [Int.ediv_ediv_of_nonneg (by omega), Int.mul_comm]
    have e2 : dig (sn :: ss) 0 c = c / pr ss % sn := by simp [dig]
    have e3 : ((fun i => keepB ((f :: fs).getD i (-1)) (dig (sn :: ss) i c)) ∘ Nat.succ) = fun i => keepB (fs.getD i (-1)) (dig ss i c) := by funext i; simp [dig]
    rw [e1, e2, e3, List.getD_cons_zero, Bool.and_assoc]
theorem keepB_iff {f k : Int} : keepB f k = true ↔ f < 0 ∨ f = k := by simp [keepB]
theorem getD_set {l : List Int} {i j : Nat} {x : Int} (hi : i < l.length) : (l.set i x).getD j (-1) = if i = j then x else l.getD j (-1) := by
  rw [List.getD_eq_getElem?_getD, List.getD_eq_getElem?_getD, List.getElem?_set]
  by_cases h : i = j
  · subst h; simp [hi]
  · simp [h]
/-- Fixing says just what the words say. -/
theorem fixF_spec {P : List UInt8 → Int → Int} {sh : List Int} (hP : ∀ v w, v < sh.length → 0 ≤ P w (sh.getD v 1)) (d : Nat → Int) : ∀ (vs : List Int) (ws : List (List UInt8)) (fx : List Int), fx.length = sh.length → vs.length = ws.length → (∀ v ∈ vs, 0 ≤ v ∧ v < sh.length) →
    ((match fixF P sh vs ws fx with
     | some fy => (∀ v, v < sh.length → keepB (fy.getD v (-1)) (d v) = true)
     | none => False) ↔ (∀ v, v < sh.length → keepB (fx.getD v (-1)) (d v) = true) ∧ ∀ i (h : i < vs.length) (h2 : i < ws.length), d vs[i].toNat = P ws[i] (sh.getD vs[i].toNat 1))
  | [], [], fx, hl, _, _ => by simp [fixF]
  | v :: vs, [], fx, hl, h, _ => by simp at h
  | [], w :: ws, fx, hl, h, _ => by simp at h
  | v :: vs, w :: ws, fx, hl, hlen, hv => by
    have hv0 := hv v (by simp)
    have hvt : v.toNat < sh.length := by omega
    have hk := hP v.toNat w hvt
    have split : (∀ i (h : i < (v :: vs).length) (h2 : i < (w :: ws).length), d (v :: vs)[i].toNat = P (w :: ws)[i] (sh.getD (v :: vs)[i].toNat 1)) ↔ d v.toNat = P w (sh.getD v.toNat 1) ∧ ∀ i (h : i < vs.length) (h2 : i < ws.length), d vs[i].toNat = P ws[i] (sh.getD vs[i].toNat 1) := by
      constructor
      · intro h
        refine ⟨h 0 (by simp) (by simp), fun i h1 h2 => ?_⟩
        have := h (i + 1) (by simp; omega) (by simp; omega)
        simpa using this
      · rintro ⟨h0, h1⟩ i hi hi2
        cases i with
        | zero => simpa using h0
        | succ i => simpa using h1 i (by simpa using hi) (by simpa using hi2)
    rw [split]
    unfold fixF
    by_cases hc : 0 ≤ fx.getD v.toNat (-1) ∧ fx.getD v.toNat (-1) ≠ P w (sh.getD v.toNat 1)
    · rw [if_pos hc]
      simp only [false_iff]
      rintro ⟨h1, h2, _⟩
      have := keepB_iff.1 (h1 v.toNat hvt)
      omega
    · rw [if_neg hc]
      rw [fixF_spec hP d vs ws _ (by simpa using hl) (by simpa using hlen) (fun u hu => hv u (List.mem_cons_of_mem _ hu))]
      constructor
      · rintro ⟨h1, h2⟩
        have h3 := h1 v.toNat hvt
        rw [getD_set (by omega), if_pos rfl] at h3
        have h4 := keepB_iff.1 h3
        refine ⟨fun u hu => ?_, by omega, h2⟩
        by_cases e : v.toNat = u
        · subst e; refine keepB_iff.2 ?_; omega
        · have := h1 u hu
          rwa [getD_set (by omega), if_neg e] at this
      · rintro ⟨h1, h2, h3⟩
        refine ⟨fun u hu => ?_, h3⟩
        rw [getD_set (by omega)]
        by_cases e : v.toNat = u
        · subst e; rw [if_pos rfl]; exact keepB_iff.2 (.inr h2.symm)
        · rw [if_neg e]; exact h1 u hu
def fixed (P : List UInt8 → Int → Int) (sh vs : List Int) (ws : List (List UInt8)) : Option (List Int) := fixF P sh vs ws (List.replicate sh.length (-1))
def routeL (P : List UInt8 → Int → Int) (sh vs : List Int) (ws : List (List UInt8)) : List Int := match fixed P sh vs ws with
  | some fy => outF sh fy [0]
  | none => []
/-- The cells, one by one. -/
def cellOk (P : List UInt8 → Int → Int) (sh : List Int) (c : Int) : List Int → List (List UInt8) → Bool
  | v :: vs, w :: ws => dig sh v.toNat c == P w (sh.getD v.toNat 1) && cellOk P sh c vs ws
  | _, _ => true
theorem cellOk_iff {P : List UInt8 → Int → Int} {sh : List Int} {c : Int} : ∀ {vs : List Int} {ws : List (List UInt8)}, vs.length = ws.length → (cellOk P sh c vs ws = true ↔ ∀ i (h : i < vs.length) (h2 : i < ws.length), dig sh vs[i].toNat c = P ws[i] (sh.getD vs[i].toNat 1))
  | [], [], _ => by simp [cellOk]
  | [], _ :: _, h => by simp at h
  | _ :: _, [], h => by simp at h
  | v :: vs, w :: ws, h => by
    simp only [cellOk, Bool.and_eq_true, beq_iff_eq, cellOk_iff (vs := vs) (ws := ws) (by simpa using h)]
    constructor
    · rintro ⟨h0, h1⟩ i hi hi2
      cases i with
      | zero => simpa using h0
      | succ i => simpa using h1 i (by simpa using hi) (by simpa using hi2)
    · intro h
      refine ⟨h 0 (by simp) (by simp), fun i h1 h2 => ?_⟩
      have := h (i + 1) (by simp; omega) (by simp; omega)
      simpa using this
theorem getD_rep {n v : Nat} (h : v < n) : (List.replicate n (-1 : Int)).getD v (-1) = -1 := by
  rw [List.getD_eq_getElem?_getD, List.getElem?_replicate, if_pos h]; rfl
/-- Both ways give the same cells. -/
theorem route_eq {P : List UInt8 → Int → Int} {sh vs : List Int} {ws : List (List UInt8)} (hs : ∀ x ∈ sh, 1 ≤ x) (hP : ∀ v w, v < sh.length → 0 ≤ P w (sh.getD v 1)) (hl : vs.length = ws.length) (hv : ∀ v ∈ vs, 0 ≤ v ∧ v < sh.length) :
    routeL P sh vs ws = (rangeI (pr sh).toNat).filter fun c => cellOk P sh c vs ws := by
  have key := fun c => fixF_spec hP (fun i => dig sh i c) vs ws (List.replicate sh.length (-1)) (by simp) hl hv
  have h0 : ∀ c v, v < sh.length → keepB ((List.replicate sh.length (-1 : Int)).getD v (-1)) (dig sh v c) = true := fun c v hv => by rw [getD_rep hv]; exact keepB_iff.2 (.inl (by omega))
  unfold routeL fixed
  cases hf : fixF P sh vs ws (List.replicate sh.length (-1)) with
  | none =>
    symm
    rw [List.filter_eq_nil_iff]
    intro c _ hc
    have := key c
    rw [hf] at this
    exact this.2 ⟨h0 c, (cellOk_iff hl).1 hc⟩
  | some fy =>
    have hfl := fixF_len hf
    have e := outF_filter sh fy 1 (fun _ => true) hs (by simpa using hfl)
    have h1 : (rangeI 1).filter (fun _ => true) = [0] := rfl
    rw [h1, Nat.one_mul] at e
    show outF sh fy [0] = _
    rw [e]
    apply List.filter_congr
    intro c _
    rw [Bool.true_and, Bool.eq_iff_iff, List.all_eq_true, cellOk_iff hl]
    have := key c
    rw [hf] at this
    constructor
    · intro h; exact (this.1 fun v hv => h v (List.mem_range.2 hv)).2
    · intro h v hv; exact this.2 ⟨h0 c, h⟩ v (List.mem_range.1 hv)
/-- The number of parts, one behind the other. -/
def horn : List Int → List Int → Int → Int
  | s :: ss, d :: ds, a => horn ss ds (a * s + d)
  | _, _, a => a
theorem stepO_one {s d a : Int} (h0 : 0 ≤ d) (h1 : d < s) : stepO s d [a] = [a * s + d] := by
  simp only [stepO, List.flatMap_cons, List.flatMap_nil, List.append_nil, inO_eq, Int.zero_add]
  have : (rangeI s.toNat).filter (fun j => keepB d j) = [d] := by
    have h2 : s.toNat = d.toNat + (1 + (s.toNat - d.toNat - 1)) := by omega
    rw [h2, rangeI_add, rangeI_add, List.filter_append, List.map_append, List.filter_append]
    have a1 : (rangeI d.toNat).filter (fun j => keepB d j) = [] := by
      rw [List.filter_eq_nil_iff]; intro j hj hk
      have := rangeI_mem.1 hj; have := keepB_iff.1 hk; omega
    have a2 : ((rangeI 1).map fun x => ((d.toNat : Nat) : Int) + x).filter (fun j => keepB d j) = [d] := by
      have : (rangeI 1).map (fun x => ((d.toNat : Nat) : Int) + x) = [d] := by simp [rangeI]; omega
      rw [this]; simp [keepB]
    have a3 : (((rangeI (s.toNat - d.toNat - 1)).map fun x => ((1 : Nat) : Int) + x).map fun x => ((d.toNat : Nat) : Int) + x).filter (fun j => keepB d j) = [] := by
      rw [List.filter_eq_nil_iff]; intro j hj hk
      obtain ⟨y, hy, rfl⟩ := List.mem_map.1 hj
      obtain ⟨z, hz, rfl⟩ := List.mem_map.1 hy
      have := rangeI_mem.1 hz; have := keepB_iff.1 hk; omega
    rw [a1, a2, a3]; rfl
  rw [this]; rfl
theorem outF_all : ∀ {sh ds : List Int} {a : Int}, ds.length = sh.length → (∀ i (h : i < ds.length) (h2 : i < sh.length), 0 ≤ ds[i] ∧ ds[i] < sh[i]) → outF sh ds [a] = [horn sh ds a]
  | [], ds, a, hl, _ => by simp [outF, horn]
  | s :: ss, [], a, hl, _ => by simp at hl
  | s :: ss, d :: ds, a, hl, h => by
    have h0 := h 0 (by simp) (by simp)
    simp only [List.getElem_cons_zero] at h0
    simp only [outF, horn]
    rw [stepO_one h0.1 h0.2]
    exact outF_all (by simpa using hl) fun i h1 h2 => h (i + 1) (Nat.succ_lt_succ h1) (Nat.succ_lt_succ h2)
theorem horn_mem : ∀ {sh ds fx out : List Int} {a : Int}, ds.length = sh.length → fx.length = sh.length → (∀ i (h : i < ds.length) (h2 : i < sh.length), 0 ≤ ds[i] ∧ ds[i] < sh[i]) → (∀ i (h : i < ds.length) (h2 : i < fx.length), keepB fx[i] ds[i] = true) → a ∈ out → horn sh ds a ∈ outF sh fx out
  | [], ds, fx, out, a, _, _, _, _, ha => by simpa [outF, horn] using ha
  | s :: ss, [], fx, out, a, hl, _, _, _, _ => by simp at hl
  | s :: ss, d :: ds, [], out, a, _, hl, _, _, _ => by simp at hl
  | s :: ss, d :: ds, f :: fs, out, a, hl, hl2, h, hk, ha => by
    have h0 := h 0 (by simp) (by simp)
    have k0 := hk 0 (by simp) (by simp)
    simp only [List.getElem_cons_zero] at h0 k0
    simp only [outF, horn]
    refine horn_mem (by simpa using hl) (by simpa using hl2) (fun i h1 h2 => h (i + 1) (Nat.succ_lt_succ h1) (Nat.succ_lt_succ h2)) (fun i h1 h2 => hk (i + 1) (Nat.succ_lt_succ h1) (Nat.succ_lt_succ h2)) ?_
    refine List.mem_flatMap.2 ⟨a, ha, (inO_mem _ _).2 ⟨d.toNat, by omega, ?_, by omega⟩⟩
    rw [show (0 : Int) + (d.toNat : Nat) = d by omega]; exact k0
theorem horn_range : ∀ {sh ds : List Int} {a m : Int}, ds.length = sh.length → (∀ i (h : i < ds.length) (h2 : i < sh.length), 0 ≤ ds[i] ∧ ds[i] < sh[i]) → 0 ≤ a ∧ a < m → 0 ≤ horn sh ds a ∧ horn sh ds a < m * pr sh
  | [], ds, a, m, hl, _, ha => by simpa [horn, pr] using ha
  | s :: ss, [], a, m, hl, _, _ => by simp at hl
  | s :: ss, d :: ds, a, m, hl, h, ha => by
    have h0 := h 0 (by simp) (by simp)
    simp only [List.getElem_cons_zero] at h0
    have := horn_range (sh := ss) (ds := ds) (a := a * s + d) (m := m * s) (by simpa using hl) (fun i h1 h2 => h (i + 1) (Nat.succ_lt_succ h1) (Nat.succ_lt_succ h2)) (digit_lt ha h0)
    simp only [horn, pr]; rw [← Int.mul_assoc]; exact this
/-- As many cells as the free variables have parts. -/
def cnt : List Int → List Int → Int
  | s :: ss, f :: fs => (if f < 0 then s else 1) * cnt ss fs
  | _, _ => 1
theorem rangeI_len (m : Nat) : (rangeI m).length = m := by simp [rangeI]
theorem stepO_count {s f : Int} (hs : 1 ≤ s) (hf : f < s) : ∀ (out : List Int), ((stepO s f out).length : Int) = out.length * (if f < 0 then s else 1)
  | [] => by simp [stepO]
  | c :: out => by
    have ih := stepO_count hs hf out
    unfold stepO at ih ⊢
    rw [List.flatMap_cons, List.length_append]
    have h1 : ((inO f s c s.toNat 0).length : Int) = if f < 0 then s else 1 := by
      by_cases hn : f < 0
      · rw [if_pos hn, inO_eq, List.length_map, List.filter_eq_self.2 (fun j _ => keepB_iff.2 (.inl hn)), rangeI_len]; omega
      · have := stepO_one (s := s) (d := f) (a := c) (by omega) hf
        simp only [stepO, List.flatMap_cons, List.flatMap_nil, List.append_nil] at this
        rw [this, if_neg hn]; rfl
    rw [List.length_cons]
    push_cast
    rw [ih, h1, Int.add_mul, Int.one_mul, Int.add_comm]
theorem outF_count : ∀ {sh fx : List Int} (out : List Int), fx.length = sh.length → (∀ x ∈ sh, 1 ≤ x) → (∀ i (h : i < fx.length) (h2 : i < sh.length), fx[i] < sh[i]) → ((outF sh fx out).length : Int) = out.length * cnt sh fx
  | [], fx, out, hl, _, _ => by simp [outF, cnt]
  | s :: ss, [], out, hl, _, _ => by simp at hl
  | s :: ss, f :: fs, out, hl, hs, h => by
    have h0 := h 0 (by simp) (by simp)
    simp only [List.getElem_cons_zero] at h0
    simp only [outF, cnt]
    rw [outF_count (stepO s f out) (by simpa using hl) (fun x hx => hs x (List.mem_cons_of_mem _ hx)) (fun i h1 h2 => h (i + 1) (Nat.succ_lt_succ h1) (Nat.succ_lt_succ h2)), stepO_count (hs s (by simp)) h0, Int.mul_assoc]
theorem cnt_set : ∀ {sh fx : List Int} {v : Nat} {k : Int}, fx.length = sh.length → v < sh.length → 0 ≤ k → fx.getD v (-1) < 0 → cnt sh (fx.set v k) * sh.getD v 1 = cnt sh fx
  | [], fx, v, k, hl, hv, _, _ => by simp at hv
  | s :: ss, [], v, k, hl, _, _, _ => by simp at hl
  | s :: ss, f :: fs, 0, k, hl, _, hk, hf => by
    simp only [List.getD_cons_zero] at hf
    simp only [List.set_cons_zero, cnt, List.getD_cons_zero, if_pos hf, if_neg (show ¬ k < 0 by omega), Int.one_mul]
    rw [Int.mul_comm]
  | s :: ss, f :: fs, v + 1, k, hl, hv, hk, hf => by
    simp only [List.getD_cons_succ] at hf
    simp only [List.set_cons_succ, cnt, List.getD_cons_succ, Int.mul_assoc]
    rw [cnt_set (by simpa using hl) (by simpa using hv) hk hf]
theorem cnt_free : ∀ (sh : List Int), cnt sh (List.replicate sh.length (-1)) = pr sh
  | [] => rfl
  | s :: ss => by simp [List.replicate_succ, cnt, pr, cnt_free ss]
end Sh13
end Go.Ab
