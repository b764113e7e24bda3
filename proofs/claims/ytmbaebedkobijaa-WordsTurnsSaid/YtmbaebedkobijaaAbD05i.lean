import Derived.Test.YtmbaebedkobijaaAbD05merged0
/- sinewlaw05: WordsTurns. -/
namespace Go.Ab
open Go.Proofs Go.RowKit
set_option linter.unusedVariables false
set_option linter.unusedSimpArgs false
set_option maxRecDepth 100000
/-- The words, sorted. -/
def sWords (ws : List (List UInt8)) : List (List UInt8) := (sorted ws).map fun k => ws.getD k []
theorem sWords_len (ws : List (List UInt8)) : (sWords ws).length = ws.length := by unfold sWords; rw [List.length_map, sorted_len]
theorem sWords_at {ws : List (List UInt8)} {i : Nat} (h : i < (sorted ws).length) : (sWords ws)[i]'(by unfold sWords; simpa using h) = ws[(sorted ws)[i]]'(sorted_lt h) := by
  unfold sWords
  rw [List.getElem_map, List.getD_eq_getElem?_getD, List.getElem?_eq_getElem (sorted_lt h)]; rfl
theorem sWords_mem (ws : List (List UInt8)) (x : List UInt8) : x ∈ sWords ws ↔ x ∈ ws := by
  unfold sWords
  rw [List.mem_map]
  constructor
  · rintro ⟨k, hk, rfl⟩
    have hl := (sortW_perm ws (List.range ws.length)).mem_iff.1 hk
    have hl := List.mem_range.1 hl
    rw [List.getD_eq_getElem?_getD, List.getElem?_eq_getElem hl]
    exact List.getElem_mem hl
  · intro hx
    obtain ⟨k, hk, rfl⟩ := List.mem_iff_getElem.1 hx
    refine ⟨k, (sortW_perm ws (List.range ws.length)).mem_iff.2 (List.mem_range.2 hk), ?_⟩
    rw [List.getD_eq_getElem?_getD, List.getElem?_eq_getElem hk]; rfl
theorem sWords_sorted {ws : List (List UInt8)} (hu : ws.Nodup) : (sWords ws).Pairwise fun a b => Op.bytesLess a b = true := by
  rw [List.pairwise_iff_getElem]
  intro i j hi hj hij
  have hi' : i < (sorted ws).length := by rw [sorted_len, ← sWords_len]; exact hi
  have hj' : j < (sorted ws).length := by rw [sorted_len, ← sWords_len]; exact hj
  rw [sWords_at hi', sWords_at hj']
  exact sorted_less hu hij hj'
theorem strict_same : ∀ (a b : List (List UInt8)), (a.Pairwise fun a b => Op.bytesLess a b = true) → (b.Pairwise fun a b => Op.bytesLess a b = true) → (∀ x, x ∈ a ↔ x ∈ b) → a = b
  | [], [], _, _, _ => rfl
  | [], y :: b, _, _, h => by have := (h y).2 (by simp); cases this
  | x :: a, [], _, _, h => by have := (h x).1 (by simp); cases this
  | x :: a, y :: b, ha, hb, h => by
    rw [List.pairwise_cons] at ha hb
    have irr : ∀ z, Op.bytesLess z z = true → False := fun z hz => by rw [less_irr] at hz; cases hz
    have hxy : x = y := by
      rcases List.mem_cons.1 ((h x).1 (by simp)) with g | g
      · exact g
      rcases List.mem_cons.1 ((h y).2 (by simp)) with g' | g'
      · exact g'.symm
      exact (irr _ (less_tr (hb.1 x g) (ha.1 y g'))).elim
    subst hxy
    rw [strict_same a b ha.2 hb.2 (fun z => ?_)]
    constructor
    · intro hz
      rcases List.mem_cons.1 ((h z).1 (List.mem_cons_of_mem _ hz)) with g | g
      · subst g; exact (irr _ (ha.1 z hz)).elim
      · exact g
    · intro hz
      rcases List.mem_cons.1 ((h z).2 (List.mem_cons_of_mem _ hz)) with g | g
      · subst g; exact (irr _ (hb.1 z hz)).elim
      · exact g
/-- Two dictionaries. -/
structure DTwo (st : St) (d1 m1 t1 : Nat) (a : List (List UInt8)) (d2 m2 t2 : Nat) (b : List (List UInt8)) : Prop where
  A : DAt st d1 m1 t1 a
  B : DAt st d2 m2 t2 b
  n1 : d1 ≠ d2
  n2 : d1 ≠ m2
  n3 : m1 ≠ d2
  n4 : m1 ≠ m2
  tk : t1 ≤ 2 ∨ t1 ≠ t2
theorem DTwo.swap {st : St} {d1 m1 t1 d2 m2 t2 : Nat} {a b : List (List UInt8)} (h : DTwo st d1 m1 t1 a d2 m2 t2 b) : DTwo st d2 m2 t2 b d1 m1 t1 a :=
  ⟨h.B, h.A, h.n1.symm, h.n3.symm, h.n2.symm, h.n4.symm, by rcases h.tk with g | g <;> omega⟩
theorem DTwo.put {st : St} {d1 m1 t1 d2 m2 t2 : Nat} {a b : List (List UInt8)} (h : DTwo st d1 m1 t1 a d2 m2 t2 b) (hl : a.length ≤ 100000) (s : List UInt8) :
    ∃ st' t1', s12 [.ptr d1 0, .str s] st = some (.ret (.tup [.int .i64 ((putW a s).2.1 : Nat), .int .i64 ((putW a s).2.2 : Nat)]), st') ∧ DTwo st' d1 m1 t1' (putW a s).1 d2 m2 t2 b := by
  obtain ⟨st', t', q1, q2, q3⟩ := put_s h.A hl s
  have hb := h.B.tlt
  refine ⟨st', t', q1, ⟨q2, ⟨by rw [q3.ob _ h.B.lt h.n1.symm h.n3.symm]; exact h.B.ob, by rw [q3.ob _ h.B.mlt h.n2.symm h.n4.symm]; exact h.B.mob, Nat.lt_of_lt_of_le h.B.lt q3.n, Nat.lt_of_lt_of_le h.B.mlt q3.n, h.B.ne, ?_⟩, h.n1, h.n2, h.n3, h.n4, ?_⟩⟩
  · rcases h.B.own with g | g | ⟨k, g1, g2, g3⟩
    · exact .inl g
    · exact .inr (.inl g)
    · exact .inr (.inr ⟨k, g1, Nat.lt_of_lt_of_le g2 q3.nt, by rw [q3.tk k g2 (by have := h.tk; omega)]; exact g3⟩)
  · have := h.tk
    rcases q3.tt with g | g | g <;> omega
theorem turns_cmp {d1 m1 t1 d2 m2 t2 : Nat} {a b : List (List UInt8)} (he : sWords a = sWords b) (hl : a.length ≤ 100000) {s1 s2 st : St} (ha : DAt st d1 m1 t1 a) (hb : DAt st d2 m2 t2 b) {v w : V} (hv : SlAt s1 st v (sorted a)) (hw : SlAt s2 st w (sorted b)) : ∀ (f i : Nat), i ≤ a.length → a.length < f + i →
    ∃ st', g5b1111111010 f (.ptr d1 0) (.ptr d2 0) v w (.int .i64 (i : Nat)) st = some (.ret (.bool true), st') := by
  have la := sorted_len a
  have lb := sorted_len b
  have hab : a.length = b.length := by have := congrArg List.length he; rw [sWords_len, sWords_len] at this; exact this
  intro f
  induction f with
  | zero => intro i hi hf; omega
  | succ f ih =>
    intro i hi hf
    unfold g5b1111111010
    simp only [slat_len hv, la, bin_lss]
    by_cases h : i < a.length
    · have e4 : ∀ K, A.bin .add (.int .i64 (i : Nat)) (.int .i64 1) K = K (.int .i64 ((i + 1 : Nat) : Int)) := fun K => bin_inc (by omega) K
      have ia : i < (sorted a).length := by omega
      have ib : i < (sorted b).length := by omega
      have wd : ∀ {d m t : Nat} {ws : List (List UInt8)} (h : DAt st d m t ws) {k} (hk : k < ws.length), s14 [.ptr d 0, .int .i64 ((k : Nat) : Int)] st = some (.ret (.tup [.str ws[k], .int .i64 0]), st) := fun {d m t ws} h {k} hk => by
        rw [word_s h, dif_pos ⟨by omega, by simpa using hk⟩]; simp
      have hsame : a[(sorted a)[i]]'(sorted_lt ia) = b[(sorted b)[i]]'(sorted_lt ib) := by
        rw [← sWords_at ia, ← sWords_at ib]
        simp only [he]
      simp only [show ((i : Int) < (a.length : Int)) from by omega, decide_true, cond_true]
      rw [slat_at hv ia]
      simp only [er1_ptr, er1_int, wd ha (sorted_lt ia), ret_ret, ext_0, ext_1]
      unfold g5b111111101001001
      rw [slat_at hw ib]
      simp only [er1_ptr, er1_int, wd hb (sorted_lt ib), ret_ret, ext_0, ext_1]
      unfold g5b1111111010010011
      simp only [hsame, eql_str, if_true, bne_self_eq_false, guard_ff, eql_int, cond_false, e4]
      exact ih (i + 1) (by omega) (by omega)
    · have : i = a.length := by omega
      subst this
      obtain ⟨st', hw⟩ := awake_s st
      simp only [Int.lt_irrefl, decide_false, cond_false, hw, ret_ret, er1_bool]
      exact ⟨_, rfl⟩
theorem slat_ks {st0 st st' : St} {v : V} {ks : List Nat} (h : SlAt st0 st v ks) (k : Ks st st') : SlAt st0 st' v ks := by
  rcases h with g | ⟨id, g1, g2, g3, g4, g5⟩
  · exact .inl g
  · exact .inr ⟨id, g1, by rw [k.ob _ g4]; exact g2, g3, Nat.lt_of_lt_of_le g4 k.n, g5⟩
theorem turns_end {d1 m1 t1 d2 m2 t2 : Nat} {a b : List (List UInt8)} (ua : a.Nodup) (ub : b.Nodup) (hm : ∀ x, x ∈ a ↔ x ∈ b) (la : a.length ≤ 1000) (lb : b.length ≤ 1000) {st : St} (h : DTwo st d1 m1 t1 a d2 m2 t2 b) : ∃ st', g5b11111 (.ptr d1 0) (.ptr d2 0) st = some (.ret (.bool true), st') := by
  have he : sWords a = sWords b := strict_same _ _ (sWords_sorted ua) (sWords_sorted ub) (fun x => by rw [sWords_mem, sWords_mem]; exact hm x)
  have hab : a.length = b.length := by have := congrArg List.length he; rw [sWords_len, sWords_len] at this; exact this
  unfold g5b11111
  obtain ⟨st1, v, q1, q2, q3⟩ := sorted_s h.A ua (by omega)
  obtain ⟨st2, w, r1, r2, r3⟩ := sorted_s (dat_ks h.B q3) ub (by omega)
  have hA := dat_ks (dat_ks h.A q3) r3
  have hB := dat_ks (dat_ks h.B q3) r3
  have hv := slat_ks q2 r3
  have s1 : (sortW a (List.range a.length)).length = b.length := (sorted_len a).trans hab
  have s2 : (sortW b (List.range b.length)).length = b.length := sorted_len b
  have lv : ∀ K, A.lenL v K = K (.int .i64 (b.length : Nat)) := fun K => by rw [slat_len hv, s1]
  have lw : ∀ K, A.lenL w K = K (.int .i64 (b.length : Nat)) := fun K => by rw [slat_len r2, s2]
  have l1 := len_s hA
  rw [hab] at l1
  simp only [er1_ptr, q1, ret_ret, r1, lv, lw, l1, eql_int, if_true, bne_self_eq_false, guard_ff, len_s hB, cond_false]
  unfold g5b1111111
  exact turns_cmp he (by omega) hA hB hv r2 big 0 (by omega) (lt_big (by omega))
theorem turns_loop (l : List (List UInt8)) {n : Nat} (hn : n ≤ l.length) (hn2 : n ≤ 100) (x : Int) {d1 m1 d2 m2 : Nat} : ∀ (f i t1 t2 : Nat) (a b : List (List UInt8)) (st : St), i ≤ n → n < f + i → a.length ≤ i → b.length ≤ i → a.Nodup → b.Nodup → (∀ y, y ∈ a ↔ isW y = true ∧ ∃ j, j < i ∧ l[j]? = some y) → (∀ y, y ∈ b ↔ isW y = true ∧ ∃ j, j < i ∧ l[(j + low 65536 x) % n]? = some y) → DTwo st d1 m1 t1 a d2 m2 t2 b →
    ∃ st', g5b1111010 f (.lst (strsV l) 0) (.int .i64 x) (.ptr d1 0) (.ptr d2 0) (.int .i64 (n : Nat)) (.int .i64 (i : Nat)) st = some (.ret (.bool true), st') := by
  have hlow := low_lt 65536 x (by omega)
  intro f
  induction f with
  | zero => intro i t1 t2 a b st hi hf; omega
  | succ f ih =>
    intro i t1 t2 a b st hi hf la lb ua ub ma mb h
    unfold g5b1111010
    by_cases hlt : i < n
    · have e4 : ∀ K, A.bin .add (.int .i64 (i : Nat)) (.int .i64 1) K = K (.int .i64 ((i + 1 : Nat) : Int)) := fun K => bin_inc (by omega) K
      have hil : i < l.length := by omega
      have hr := Nat.mod_lt (i + low 65536 x) (show 0 < n by omega)
      have hrl : (i + low 65536 x) % n < l.length := by omega
      obtain ⟨st1, t1', q1, q2⟩ := h.put (by omega) l[i]
      obtain ⟨st2, t2', r1, r2⟩ := q2.swap.put (by omega) (l[(i + low 65536 x) % n])
      have ea : ∀ K, A.bin .add (.int .i64 (i : Nat)) (.int .i64 (low 65536 x : Nat)) K = K (.int .i64 ((i + low 65536 x : Nat) : Int)) := fun K => bin_addN _ _ K (by omega)
      have er : ∀ K, A.bin .rem (.int .i64 (i + low 65536 x : Nat)) (.int .i64 (n : Nat)) K = K (.int .i64 (((i + low 65536 x) % n : Nat) : Int)) := fun K => bin_remN _ _ K (by omega)
      simp only [bin_lss, show ((i : Int) < (n : Int)) from by omega, decide_true, cond_true, iaddr_strs 0 hil, load_l1', er1_ptr, er1_str, q1, ret_ret, bin_and65535, ea, er, iaddr_strs 0 hrl, r1, e4]
      refine ih (i + 1) t1' t2' _ _ st2 (by omega) (by omega) (by have := putW_len a l[i]; omega) (by have := putW_len b (l[(i + low 65536 x) % n]); omega) (putW_nodup ua _) (putW_nodup ub _) ?_ ?_ r2.swap
      · intro y
        rw [putW_mem, ma]
        constructor
        · rintro (⟨g1, j, g2, g3⟩ | ⟨g1, rfl⟩)
          · exact ⟨g1, j, by omega, g3⟩
          · exact ⟨g1, i, by omega, by rw [List.getElem?_eq_getElem hil]⟩
        · rintro ⟨g1, j, g2, g3⟩
          by_cases hj : j = i
          · subst hj
            rw [List.getElem?_eq_getElem hil] at g3
            exact .inr ⟨by rw [Option.some.inj g3]; exact g1, (Option.some.inj g3).symm⟩
          · exact .inl ⟨g1, j, by omega, g3⟩
      · intro y
        rw [putW_mem, mb]
        constructor
        · rintro (⟨g1, j, g2, g3⟩ | ⟨g1, rfl⟩)
          · exact ⟨g1, j, by omega, g3⟩
          · exact ⟨g1, i, by omega, by rw [List.getElem?_eq_getElem hrl]⟩
        · rintro ⟨g1, j, g2, g3⟩
          by_cases hj : j = i
          · subst hj
            rw [List.getElem?_eq_getElem hrl] at g3
            exact .inr ⟨by rw [Option.some.inj g3]; exact g1, (Option.some.inj g3).symm⟩
          · exact .inl ⟨g1, j, by omega, g3⟩
    · have : i = n := by omega
      subst this
      simp only [bin_lss, Int.lt_irrefl, decide_false, cond_false]
      refine turns_end ua ub (fun y => ?_) (by omega) (by omega) h
      rw [ma, mb]
      constructor
      · rintro ⟨g1, j, g2, g3⟩
        refine ⟨g1, (j + i - low 65536 x % i) % i, Nat.mod_lt _ (by omega), ?_⟩
        have hm := Nat.mod_lt (low 65536 x) (show 0 < i by omega)
        have : ((j + i - low 65536 x % i) % i + low 65536 x) % i = j := by
          rw [Nat.mod_add_mod]
          have e := Nat.div_add_mod (low 65536 x) i
          have : j + i - low 65536 x % i + low 65536 x = j + i + i * (low 65536 x / i) := by omega
          rw [this, Nat.add_mul_mod_self_left, Nat.add_mod_right, Nat.mod_eq_of_lt g2]
        rw [this]; exact g3
      · rintro ⟨g1, j, g2, g3⟩
        exact ⟨g1, _, Nat.mod_lt _ (by omega), g3⟩
theorem wordsTurns_law (l : List (List UInt8)) (hl : l.length ≤ 9223372036854775807) (x : Int) (st : St) : ∃ st', s5 [.lst (strsV l) 0, .int .i64 x] st = some (.ret (.bool true), st') := by
  rw [s5_eq]
  unfold f5
  have em : ∀ K, A.min (.int .i64 (l.length : Nat)) (.int .i64 100) K = K (.int .i64 ((min l.length 100 : Nat) : Int)) := fun K => by
    show K (.int .i64 (if (100 : Int) < (l.length : Int) then 100 else (l.length : Int))) = _
    congr 2
    split <;> omega
  have hA := new_at_d st
  have hB := new_at_d ((st.new (.map [])).new (.cells [.map st.n, .lst [] 1]))
  have hn : ((st.new (.map [])).new (.cells [.map st.n, .lst [] 1])).n = st.n + 2 := by simp
  have hk := (((Ks.refl ((st.new (.map [])).new (.cells [.map st.n, .lst [] 1]))).new (.map [])).new (.cells [.map ((st.new (.map [])).new (.cells [.map st.n, .lst [] 1])).n, .lst [] 1]))
  simp only [new_s, ret_ret, eql_ptr, guard_ff, cond_false]
  unfold g5b111
  simp only [lenL_lst, strsV_len, em]
  refine turns_loop l (n := min l.length 100) (by omega) (by omega) x (m1 := st.n) (m2 := ((st.new (.map [])).new (.cells [.map st.n, .lst [] 1])).n) big 0 1 1 [] [] _ (by omega) (lt_big (by omega)) (by simp) (by simp) (by simp) (by simp) (by simp) (by simp) ⟨dat_ks hA hk, hB, by omega, by omega, by omega, by omega, .inl (by omega)⟩
theorem wordsTurns_row {W : World} {v0 v1 : Value} {x0 x1 : V} {n0 n1 : Nat}
    (r0 : Rs (E0 W) [x0] [v0]) (s0 : Sh Try.prog n0 23 x0.cells) (f0 : fit Try.prog 23 x0)
    (r1 : Rs (E0 W) [x1] [v1]) (s1 : Sh Try.prog n1 3 x1.cells) (f1 : fit Try.prog 3 x1) :
    Calls Try.prog 5 #[v0, v1] W fun e w' => e = .returned (.bool true) ∧ Below W.heap.size W w' := by
  obtain ⟨l, rfl, h1, _⟩ := in_strs s0 f0 Try.underlying23 Try.underlying9
  obtain ⟨k, rfl, _⟩ := in_int s1 f1 Try.underlying3
  obtain ⟨st', hs⟩ := wordsTurns_law l h1 k St0
  exact bool_row sim5 W _ _ _ hs (Rs.cons r0 r1)
end Go.Ab
