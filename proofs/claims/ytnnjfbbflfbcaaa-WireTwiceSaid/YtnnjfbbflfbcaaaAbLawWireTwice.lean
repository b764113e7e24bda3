import Derived.Test.YtnnjfbbflfbcaaaAbW03merged0
import Derived.Test.YtnnjfbbflfbcaaaAbIn2
/- sinewlaw03.WireTwice. -/
namespace Go.Ab
open Go.Proofs Go.RowKit Go.Oct
set_option linter.unusedVariables false
set_option linter.unusedSimpArgs false
theorem twice_loop (s : List UInt8) (u : Nat) (l : List Note) (t : Nat) (hl : l.length ≤ 9223372036854775806) (hn : ∀ n ∈ l, NoteSmall n) (hk : ∀ n ∈ l, packOK n = true) (hp : (packsB l).length ≤ 1073741824) (st : St) : ∀ (f i : Nat), i ≤ l.length → l.length < f + i →
    g9b1111010 f (.str s) (.lst (notesV l) t) (.int .i64 (u : Nat)) (.str (packsB (l.take i))) (.int .i64 (i : Nat)) st = g9b11111 (.str s) (.int .i64 (u : Nat)) (.str (packsB l)) st := by
  intro f
  induction f with
  | zero => intro i hi hf; omega
  | succ f ih =>
    intro i hi hf
    unfold g9b1111010
    by_cases h : i < l.length
    · have e4 : ∀ K, A.bin .add (.int .i64 (i : Nat)) (.int .i64 1) K = K (.int .i64 ((i + 1 : Nat) : Int)) := fun K => bin_inc (by omega) K
      have n1 := (hn _ (List.getElem_mem h)).ok
      have k1 := hk _ (List.getElem_mem h)
      have hle : (packsB (l.take i)).length + (packB l[i]).length ≤ 1073741824 := by
        have e : packsB l = packsB (l.take i) ++ (packB l[i] ++ packsB (l.drop (i + 1))) := by
          have : l = l.take i ++ (l[i] :: l.drop (i + 1)) := by rw [← List.drop_eq_getElem_cons h, List.take_append_drop]
          refine (congrArg packsB this).trans ?_
          simp only [packsB, List.flatMap_append, List.flatMap_cons]
        rw [e, List.length_append, List.length_append] at hp
        omega
      simp only [lenL_lst, notesV_len, bin_lss, show ((i : Int) < (l.length : Int)) from by omega, decide_true, cond_true, iaddr_notes t h, load_note, er1_note, pack_s _ n1, k1, if_true, P2, ret_ret, ext_0, ext_1]
      unfold g9b111101001001
      simp only [eql_int, if_true, show (((0 : Nat) : Int) != 0) = false from rfl, guard_ff, iaddr_notes t h, load_note, er1_note, check_s _ n1, k1, ret_ret, show ((0 : Int) != 0) = false from rfl, cond_false]
      rw [bin_cat _ _ _ (by omega)]
      simp only [e4]
      rw [← packsB_snoc, ← List.take_succ_eq_append_getElem h]
      exact ih (i + 1) (by omega) (by omega)
    · have : i = l.length := by omega
      subst this
      simp only [lenL_lst, notesV_len, bin_lss, Int.lt_irrefl, decide_false, cond_false, List.take_length]
theorem wireTwice_law (s : List UInt8) (st : St) : ∃ st', s9 [.str s] st = some (.ret (.bool true), st') := by
  rw [s9_eq]
  unfold f9
  simp only [lenS_str, bin_gtr]
  by_cases h : 8192 < s.length
  · simp only [show ((8192 : Int) < (s.length : Int)) from by omega, decide_true, cond_true, s10_val, ret_ret, er1_bool]
    exact ⟨_, rfl⟩
  obtain ⟨a1, a2, a3⟩ := all_s s (by omega) st
  obtain ⟨b1, b2, b3⟩ := all_back s (s.length + 1) 0 [] (by omega) (by simp [packsB]) (by simp)
  have hb1 : packsB (allN s).1 = s.take (allN s).2 := b1
  have hb2 : (allN s).2 ≤ s.length := b2
  have hb3 : ∀ n ∈ (allN s).1, packOK n = true := b3
  have hpl : (packsB (allN s).1).length ≤ 1073741824 := by rw [hb1, List.length_take]; omega
  simp only [show ¬ ((8192 : Int) < (s.length : Int)) from by omega, decide_false, cond_false, er1_str, a1, ret_ret, A2, ext_0, ext_1]
  unfold g9b111
  have := twice_loop s (allN s).2 (allN s).1 0 (by omega) a2 hb3 hpl st big 0 (by omega) (by have := big_le; omega)
  simp only [List.take_zero, show packsB [] = [] from rfl, Int.natCast_zero] at this
  rw [this]
  unfold g9b11111
  simp only [bin_geq, show ((0 : Int) ≤ ((allN s).2 : Int)) from by omega, decide_true, guard_tt, lenS_str, bin_leq, show (((allN s).2 : Int) ≤ (s.length : Int)) from by omega]
  unfold g9b111110_9
  simp only [guard_tt, sliceS_to hb2, eql_str, Bool.false_eq_true, if_false, hb1, beq_self_eq_true]
  unfold g9b111110_16
  simp only [guard_tt, s10_val, ret_ret, er1_bool]
  exact ⟨_, rfl⟩
theorem wireTwice_row {W : World} {v0 : Value} {x0 : V} {n0 : Nat}
    (r0 : Rs (E0 W) [x0] [v0]) (s0 : Sh Try.prog n0 9 x0.cells) (f0 : fit Try.prog 9 x0) :
    Calls Try.prog 9 #[v0] W fun e w' => e = .returned (.bool true) ∧ Below W.heap.size W w' := by
  obtain ⟨s, rfl, h1⟩ := in_str s0 f0 Try.underlying9
  obtain ⟨st', hs⟩ := wireTwice_law s St0
  exact bool_row sim9 W _ _ _ hs r0
end Go.Ab
