import Derived.Test.YtnnjfbbflfbcaaaAbU03d
/- sinewlaw03.WireCuts. -/
namespace Go.Ab
open Go.Proofs Go.RowKit Go.Oct
set_option linter.unusedVariables false
set_option linter.unusedSimpArgs false
/-- Two lists of other sizes: one is appended to, the other keeps its right. -/
theorem Own.keep {st0 st : St} {sz sz' t t' : Nat} (hne : sz ≠ sz') (h : Own st0 st sz t) (h' : Own st0 st sz' t') : Own st0 (appSt st t sz) sz' t' := by
  rcases h' with g | g | ⟨k, g1, g2, g3, g4⟩
  · exact .inl g
  · exact .inr (.inl g)
  · refine .inr (.inr ⟨k, g1, g2, by rw [appSt_nt]; omega, ?_⟩)
    rw [appSt_tk _ _ _ _ (by omega) (fun e => ?_)]
    · exact g4
    · rcases h with q | q | ⟨k2, q1, q2, q3, q4⟩
      · omega
      · omega
      · have : k2 = k := by omega
        subst this
        rw [g4] at q4
        exact hne (Option.some.inj q4).symm
def endsI (G : List Note) : List Int := (List.range G.length).map fun j => ((pl G (j + 1) : Nat) : Int)
theorem endsI_len (G : List Note) : (endsI G).length = G.length := by simp [endsI]
theorem endsI_at (G : List Note) (j : Nat) (h : j < (endsI G).length) : (endsI G)[j] = ((pl G (j + 1) : Nat) : Int) := by simp [endsI]
theorem endsI_snoc (G : List Note) (n : Note) : endsI (G ++ [n]) = endsI G ++ [((packsB (G ++ [n])).length : Int)] := by
  unfold endsI
  rw [List.length_append, List.length_singleton, List.range_succ, List.map_append]
  congr 1
  · apply List.map_congr_left
    intro j hj
    have := List.mem_range.1 hj
    simp only [pl]
    rw [List.take_append_of_le_length (by omega)]
  · simp only [List.map_cons, List.map_nil, pl]
    rw [List.take_of_length_le (by simp)]
structure GoodN (G : List Note) : Prop where
  ok : ∀ n ∈ G, packOK n = true ∧ n.texts.length + lens n.rows ≤ 4096
  len : G.length ≤ 12
theorem packs_le : ∀ {G : List Note}, (∀ n ∈ G, packOK n = true) → (packsB G).length ≤ G.length * 1048584
  | [], _ => by simp [packsB]
  | n :: G, h => by
    have h1 := packB_le (h n (by simp))
    have h2 := packs_le (G := G) fun x hx => h x (List.mem_cons_of_mem _ hx)
    simp only [packsB, List.flatMap_cons, List.length_append, List.length_cons] at h2 ⊢; omega
theorem cuts_tail (G : List Note) (hG : GoodN G) (k : Nat) (hk : k ≤ (packsB G).length) (t1 t2 u : Nat) (st : St) (hu : u = 0) : ∀ (f j : Nat), j ≤ G.length → G.length < f + j → pl G j ≤ k →
    ∃ st', g4b1111111100 f (.lst (intsV (endsI G)) t1) (.lst (notesV G) t2) (.int .i64 (k : Nat)) (.lst (notesV (allN ((packsB G).take k)).1) u) (.int .i64 ((allN ((packsB G).take k)).2 : Nat)) (.int .i64 (j : Nat)) (.int .i64 (pl G j : Nat)) st = some (.ret (.bool true), st') := by
  intro f
  induction f with
  | zero => intro j hj hf; omega
  | succ f ih =>
    intro j hj hf h1
    have fin : (j = G.length ∨ k < pl G (j + 1)) → ∃ st', (A.slice 4 (.lst (notesV G) t2) none (some (.int .i64 (j : Nat))) none fun a8 => A.ret (s16 [(V.lst (notesV (allN ((packsB G).take k)).1) u).er1, a8.er1] st) fun a9 z10 => A.guard a9 true (A.ret (s10 [] z10) fun a11 z12 => some (.ret a11.er1, z12)) (some (.ret ((.bool false) : V).er1, z10))) = some (.ret (.bool true), st') ∧ (allN ((packsB G).take k)).2 = pl G j := by
      intro h2
      have hc := allN_cut hG.ok hk hj h1 h2
      have hsl : ∀ K, A.slice 4 (.lst (notesV G) t2) none (some (.int .i64 (j : Nat))) none K = K (.lst (notesV (G.take j)) (if j = (notesV G).length then t2 else 0)) := fun K => by
        rw [slice_to (notesV G) t2 4 j K (by simpa [notesV] using hj) (szok_notes _)]
        simp [notesV, List.map_take]
      have hsm : ∀ n ∈ (allN ((packsB G).take k)).1, NoteSM n := fun n hn => ((all_s ((packsB G).take k) (by have := packs_le fun n h => (hG.ok n h).1; have := hG.len; rw [List.length_take]; omega) st).2.1 n hn).sm
      obtain ⟨c, h3, h4⟩ := sameAll_s (allN ((packsB G).take k)).1 (G.take j) u (if j = (notesV G).length then t2 else 0) (by rw [hc, List.length_take]; have := hG.len; omega) hsm st
      have hct : c = true := h4.2 (by rw [hc])
      rw [hct] at h3
      refine ⟨st, ?_, by rw [hc]⟩
      simp only [hsl, er1_lst, h3, ret_ret, guard_tt, s10_val, er1_bool]
    unfold g4b1111111100
    simp only [lenL_lst, intsV_len, endsI_len, bin_lss]
    by_cases hl : j < G.length
    · have e4 : ∀ K, A.bin .add (.int .i64 (j : Nat)) (.int .i64 1) K = K (.int .i64 ((j + 1 : Nat) : Int)) := fun K => bin_inc (by have := hG.len; omega) K
      have hl2 : j < (endsI G).length := by rw [endsI_len]; exact hl
      simp only [show ((j : Int) < (G.length : Int)) from by omega, decide_true, guard_tt, iaddr_ints t1 hl2, endsI_at, load_l1', bin_leq]
      by_cases hle : pl G (j + 1) ≤ k
      · simp only [show ((pl G (j + 1) : Int) ≤ (k : Int)) from by omega, decide_true, cond_true]
        unfold g4b111111110001
        simp only [iaddr_ints t1 hl2, endsI_at, load_l1', e4]
        exact ih (j + 1) (by omega) (by omega) hle
      · obtain ⟨st', g1, g2⟩ := fin (.inr (by omega))
        simp only [show ¬ ((pl G (j + 1) : Int) ≤ (k : Int)) from by omega, decide_false, cond_false, g2, eql_int, Bool.false_eq_true, if_false, beq_self_eq_true, guard_tt]
        exact ⟨st', g1⟩
    · obtain ⟨st', g1, g2⟩ := fin (.inl (by omega))
      simp only [show ¬ ((j : Int) < (G.length : Int)) from by omega, decide_false, guard_ft, g2, eql_int, Bool.false_eq_true, if_false, beq_self_eq_true, guard_tt]
      exact ⟨st', g1⟩
theorem cuts_end (G : List Note) (hG : GoodN G) (cut : Int) (t1 t2 : Nat) (st : St) : ∃ st', g4b11111 (.int .i64 cut) (.str (packsB G)) (.lst (intsV (endsI G)) t1) (.lst (notesV G) t2) st = some (.ret (.bool true), st') := by
  have hle := packs_le fun n h => (hG.ok n h).1
  have h12 := hG.len
  unfold g4b11111
  have e20 : ∀ K, A.bin .and (.int .i64 cut) (.int .i64 1048575) K = K (.int .i64 (((cut % (2 ^ 20 : Nat)).toNat : Nat) : Int)) := fun K => bin_andN 20 1048575 rfl (by omega) K
  have ea : ∀ K, A.bin .add (.int .i64 ((packsB G).length : Nat)) (.int .i64 1) K = K (.int .i64 (((packsB G).length + 1 : Nat) : Int)) := fun K => bin_inc (by omega) K
  have er : ∀ K, A.bin .rem (.int .i64 (((cut % (2 ^ 20 : Nat)).toNat : Nat) : Int)) (.int .i64 (((packsB G).length + 1 : Nat) : Int)) K = K (.int .i64 (((cut % (2 ^ 20 : Nat)).toNat % ((packsB G).length + 1) : Nat) : Int)) := fun K => bin_remN _ _ K (by omega)
  have hm := Nat.mod_lt (cut % (2 ^ 20 : Nat)).toNat (show 0 < (packsB G).length + 1 by omega)
  simp only [e20, lenS_str, ea, er]
  generalize (cut % (2 ^ 20 : Nat)).toNat % ((packsB G).length + 1) = k at hm
  have hk : k ≤ (packsB G).length := by omega
  obtain ⟨a1, _⟩ := all_s ((packsB G).take k) (by rw [List.length_take]; omega) st
  simp only [sliceS_to hk, er1_str, a1, ret_ret, A2, ext_0, ext_1]
  unfold g4b1111111
  have := cuts_tail G hG k hk t1 t2 0 st rfl big 0 (by omega) (lt_big (by omega)) (by simp [pl, packsB])
  rwa [show pl G 0 = 0 by simp [pl, packsB], show ((0 : Nat) : Int) = 0 from rfl] at this
theorem cuts_loop (l : List Note) (hl : l.length ≤ 9223372036854775807) (hn : ∀ n ∈ l, NoteOK n ∧ Upto n) (cut : Int) (st0 : St) : ∀ (f i : Nat) (G : List Note) (t1 t2 : Nat) (st : St), i ≤ l.length → i ≤ 12 → 12 < f + i → GoodN G → G.length ≤ i → Own st0 st 1 t1 → Own st0 st 4 t2 → Ks st0 st →
    ∃ st', g4b1111010 f (.lst (notesV l) 0) (.int .i64 cut) (.str (packsB G)) (.lst (intsV (endsI G)) t1) (.lst (notesV G) t2) (.int .i64 (i : Nat)) st = some (.ret (.bool true), st') := by
  intro f
  induction f with
  | zero => intro i G t1 t2 st hi h12 hf; omega
  | succ f ih =>
    intro i G t1 t2 st hi h12 hf hG hGi o1 o2 hk
    unfold g4b1111010
    simp only [lenL_lst, notesV_len, bin_lss]
    by_cases h : i < l.length
    · simp only [show ((i : Int) < (l.length : Int)) from by omega, decide_true, guard_tt]
      by_cases hi2 : i < 12
      · simp only [show ((i : Int) < 12) from by omega, decide_true, cond_true]
        unfold g4b111101001
        obtain ⟨n1, u1⟩ := hn _ (List.getElem_mem h)
        obtain ⟨c, hc⟩ := light_s _ n1 st
        have e4 : ∀ K, A.bin .add (.int .i64 (i : Nat)) (.int .i64 1) K = K (.int .i64 ((i + 1 : Nat) : Int)) := fun K => bin_inc (by omega) K
        simp only [iaddr_notes 0 h, load_note, er1_note, hc, ret_ret, un_not]
        cases c with
        | false => simp only [Bool.not_false, cond_true, s10_val, ret_ret, er1_bool]; exact ⟨_, rfl⟩
        | true =>
        simp only [Bool.not_true, cond_false, iaddr_notes 0 h, load_note, er1_note, pack_s _ n1, ret_ret]
        cases hp : packOK l[i] with
        | false =>
          simp only [Bool.false_eq_true, if_false, P2, ext_0, ext_1]
          unfold g4b1111010010011
          simp only [eql_int, Bool.false_eq_true, if_false, show (((1 : Nat) : Int) == 0) = false from rfl, cond_false, e4]
          exact ih (i + 1) G t1 t2 st (by omega) (by omega) (by omega) hG (by omega) o1 o2 hk
        | true =>
          have hle := packs_le fun n h => (hG.ok n h).1
          have h12' := hG.len
          have hpl := packB_le hp
          have e6 : packsB G ++ packB l[i] = packsB (G ++ [l[i]]) := (packsB_snoc _ _).symm
          simp only [if_true, P2, ext_0, ext_1]
          unfold g4b1111010010011
          simp only [eql_int, Bool.false_eq_true, if_false, show (((0 : Nat) : Int) == 0) = true from rfl, cond_true]
          rw [bin_cat _ _ _ (by omega), e6]
          simp only [lenS_str, bslice_int1, elemsOf_ints]
          rw [app_own _ o1 (by simp [endsI_len]; omega) (szok_ints _), ← intsV_app, ← endsI_snoc]
          unfold g4b11110100100111011
          have o2' := o1.keep (by omega) o2
          obtain ⟨k1, o1'⟩ := o1.app hk
          have eb : ∀ K, A.bslice 4 (.agg [.int .i64 0, .lst [] 1, .lst [] 1, .lst [] 1]) 1 [(0, noteV l[i])] K = K (.lst (notesV [l[i]]) 2) := fun K => bslice_note _ K
          have el : ∀ st, elemsOf 5 4 (.lst (notesV [l[i]]) 2) st = some (notesV [l[i]]) := fun st => elemsOf_lst _ _ _ _ (szok_notes _)
          simp only [iaddr_notes 0 h, load_note, eb, el]
          rw [app_own _ o2' (by simp [notesV]; omega) (szok_notes _), ← notesV_app]
          obtain ⟨k2, o2''⟩ := o2'.app k1
          have o1'' := o2'.keep (by omega) o1'
          simp only [e4]
          refine ih (i + 1) (G ++ [l[i]]) _ _ _ (by omega) (by omega) (by omega) ⟨fun n hn' => ?_, by simp; omega⟩ (by simp; omega) o1'' o2'' k2
          rcases List.mem_append.1 hn' with g | g
          · exact hG.ok n g
          · rw [List.mem_singleton.1 g]; exact ⟨hp, packOK_small u1 hp⟩
      · simp only [show ¬ ((i : Int) < 12) from by omega, decide_false, cond_false]
        exact cuts_end G hG cut t1 t2 st
    · simp only [show ¬ ((i : Int) < (l.length : Int)) from by omega, decide_false, guard_ft]
      exact cuts_end G hG cut t1 t2 st
theorem wireCuts_law (l : List Note) (hl : l.length ≤ 9223372036854775807) (hn : ∀ n ∈ l, NoteOK n ∧ Upto n) (cut : Int) (st : St) : ∃ st', s4 [.lst (notesV l) 0, .int .i64 cut] st = some (.ret (.bool true), st') := by
  rw [s4_eq]
  unfold f4
  have := cuts_loop l hl hn cut st big 0 [] 1 1 st (by omega) (by omega) (by have := big_le; omega) ⟨by simp, by simp⟩ (by simp) (.nil _ _ _) (.nil _ _ _) (Ks.refl st)
  simpa [packsB, endsI, notesV] using this
theorem in_notes {n : Nat} {x : V} (s : Sh Try.prog n 31 x.cells) (f : fit Try.prog 31 x) : ∃ l : List Note, x = .lst (notesV l) 0 ∧ l.length ≤ 9223372036854775807 ∧ ∀ n ∈ l, NoteOK n := by
  obtain ⟨l, m, rfl, h1, h2⟩ := in_slice s f Try.underlying31
  obtain ⟨xs, rfl, h3⟩ := list_pick (g := noteV) (Q := NoteOK) (l := l) (fun v hv => in_note (h2 v hv).1 (h2 v hv).2)
  exact ⟨xs, rfl, by simpa using h1, h3⟩
theorem notes_upto {l : List Note} {t : Nat} (h : (V.lst (notesV l) t).bulk ≤ 1048576) : ∀ n ∈ l, Upto n := by
  intro n hn
  have h1 := note_bulk n
  have h2 := bulkL_mem (l := notesV l) (v := noteV n) (List.mem_map.2 ⟨n, hn, rfl⟩)
  simp only [V.bulk] at h
  unfold Upto; omega
theorem wireCuts_row {W : World} {v0 v1 : Value} {x0 x1 : V} {n0 n1 : Nat}
    (r0 : Rs (E0 W) [x0] [v0]) (s0 : Sh Try.prog n0 31 x0.cells) (f0 : fit Try.prog 31 x0)
    (r1 : Rs (E0 W) [x1] [v1]) (s1 : Sh Try.prog n1 3 x1.cells) (f1 : fit Try.prog 3 x1) (hb : x0.bulk + x1.bulk ≤ 1048576) :
    Calls Try.prog 4 #[v0, v1] W fun e w' => e = .returned (.bool true) ∧ Below W.heap.size W w' := by
  obtain ⟨l, rfl, h1, h2⟩ := in_notes s0 f0
  obtain ⟨b, rfl, _⟩ := in_int s1 f1 Try.underlying3
  have hu := notes_upto (l := l) (t := 0) (by omega)
  obtain ⟨st', hs⟩ := wireCuts_law l h1 (fun n hn => ⟨h2 n hn, hu n hn⟩) b St0
  exact bool_row sim4 W _ _ _ hs (Rs.cons r0 r1)
end Go.Ab
