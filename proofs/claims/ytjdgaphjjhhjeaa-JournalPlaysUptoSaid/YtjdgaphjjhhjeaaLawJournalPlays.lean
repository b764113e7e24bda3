/- The row of the law JournalPlays, written by rowg.py (our own program) over a contract proved by the engine Ab. -/
import Derived.Test.YtjdgaphjjhhjeaaRows
import Derived.Test.YtjdgaphjjhhjeaaAbK04n
import Derived.Test.YtjdgaphjjhhjeaaAbIn
import Derived.WalkKit
import Derived.ProofKit
import Derived.OpenShut
import Derived.ShutString
import Derived.ChangeOld
import Derived.Below
import Derived.SizedLaws
import Derived.Carry
import Derived.Deep.CondSized
namespace Go.Proofs.Ytjdgaphjjhhjeaa.journalPlays
open Go.ChangeShapes Go.WideShapes Go.ChangeAt Go.RowKit
set_option linter.unusedVariables false
theorem own : ownKnob Try.prog.godebug = none := by kernel_rfl
theorem laidOut : laidOutB Try.prog = true := by kernel_rfl
theorem kids : Go.Ab.kids Try.prog [3, 44, 50, 32, 22, 28, 29, 30, 9] = true := by kernel_rfl
mutual
theorem bk {H : Type} : ∀ d : DataW H, Rows.uptoBulk d = Go.Ab.bulkD d
  | .lit l => by cases l <;> simp [Rows.uptoBulk, Go.Ab.bulkD]
  | .nil => by simp [Rows.uptoBulk, Go.Ab.bulkD]
  | .ptr d => by simp [Rows.uptoBulk, Go.Ab.bulkD, bk d]
  | .slice a b => by simp [Rows.uptoBulk, Go.Ab.bulkD, bks a, bks b]
  | .agg a => by simp [Rows.uptoBulk, Go.Ab.bulkD, bks a]
  | .iface _ d => by simp [Rows.uptoBulk, Go.Ab.bulkD, bk d]
  | .map e => by simp [Rows.uptoBulk, Go.Ab.bulkD, bke e]
  | .held _ => by simp [Rows.uptoBulk, Go.Ab.bulkD]
theorem bks {H : Type} : ∀ l : List (DataW H), Rows.uptoBulkAll l = Go.Ab.bulkDs l
  | [] => by simp [Rows.uptoBulkAll, Go.Ab.bulkDs]
  | d :: r => by simp [Rows.uptoBulkAll, Go.Ab.bulkDs, bk d, bks r]
theorem bke {H : Type} : ∀ l : List (Lit × DataW H), Rows.uptoBulkEntries l = Go.Ab.bulkDe l
  | [] => by simp [Rows.uptoBulkEntries, Go.Ab.bulkDe]
  | x :: r => by simp [Rows.uptoBulkEntries, Go.Ab.bulkDe, bk1 x, bke r]
theorem bk1 {H : Type} : ∀ x : Lit × DataW H, Rows.uptoBulkEntry x = Go.Ab.bulkD1 x
  | (l, d) => by cases l <;> simp [Rows.uptoBulkEntry, Go.Ab.bulkD1, bk d]
end
set_option maxRecDepth 100000 in
theorem contract (H : Type) (enc : TypeId × Value → H) (W : World) (base : Nat) (args : Array Value) (ds gs : List (DataW H)) (before : List MemPlace)
    (hval0 : ∀ (j : Nat) t v, Try.f6.params[j]? = some t → args[j]? = some v → Value.okWide Try.prog W .any base t v)
    (hW : DataW.Whole enc Try.prog Try.f6.params.toList Rows.journalPlaysSpec.vars false W args.toList ds gs before) (hk : Rows.uptoSmall H (ds ++ gs) = true) :
    Calls Try.prog 6 args W fun e W' => ∃ v, e = .returned v ∧ Rows.journalPlaysSpec.post enc Try.prog Try.f6 false true false false W args v W' := by
  have hval : ∀ (j : Nat) t v, Try.f6.params[j]? = some t → args[j]? = some v → Value.okWide Try.prog W .any base t v := hval0
  have hW' := hW
  obtain ⟨p, q, hA0, hV, rfl, hfz, hnd⟩ := hW
  have hA : DataW.TrodAll enc Try.prog W 0 (fun _ => true) true Try.f6.params.toList args.toList ds p := hA0
  rw [Try.params6] at hA hval
  obtain ⟨v0, vs0, d0, ds0, p0, q0, hargs, rfl, rfl, h0, r0⟩ := trodAll_cons hA
  obtain ⟨v1, vs1, d1, ds1, p1, q1, rfl, rfl, rfl, h1, r1⟩ := trodAll_cons r0
  obtain ⟨rfl, rfl, rfl⟩ := trodAll_nil r1
  obtain rfl : args = #[v0, v1] := by cases args; simp_all
  obtain ⟨rfl, rfl⟩ := trodVars_none hV
  have lt0 : ∀ x ∈ p0, x.block < W.heap.size := by obtain ⟨m, hm⟩ := h0; exact DataW.trod_lt m _ _ _ hm
  obtain ⟨x0, n0, a0, b0, c0, e0⟩ := Go.Ab.val_inB kids (t := 3) (by decide) (hval 0 3 v0 rfl rfl) h0
  have lt1 : ∀ x ∈ p1, x.block < W.heap.size := by obtain ⟨m, hm⟩ := h1; exact DataW.trod_lt m _ _ _ hm
  obtain ⟨x1, n1, a1, b1, c1, e1⟩ := Go.Ab.val_inB kids (t := 44) (by decide) (hval 1 44 v1 rfl rfl) h1
  have hb : x0.bulk + x1.bulk ≤ 1048576 := by
    have h : Rows.uptoBulkAll (H := H) ([d0, d1] ++ []) ≤ 1048576 := of_decide_eq_true hk
    rw [bks] at h
    simp only [List.append_nil, Go.Ab.bulkDs] at h
    omega
  refine (Go.Ab.journalPlays_row a0 b0 c0 a1 b1 c1 hb).mono fun e W' ⟨he, bel⟩ => ?_
  subst he
  exact ⟨_, rfl, _, _, _, [], _, [], hW', trodAll_mk1 (shut_bool Try.underlying4 _), (trodAll_cons_mk (Below.trod laidOut (by kernel_rfl) (of_decide_eq_true (by kernel_rfl)) h0 bel lt0) (trodAll_cons_mk (Below.trod laidOut (by kernel_rfl) (of_decide_eq_true (by kernel_rfl)) h1 bel lt1) trodAll_mk0)), rfl, bel.frame _, fun h => by cases h⟩
set_option maxRecDepth 100000 in
theorem lifted (os : Os) (started : os.Started) (H : Type) (enc : TypeId × Value → H) (F : Stop.Interp) :
    ReturnsInHanded {} Try.checked os 6 .any ((Rows.OpenSpec.upto Rows.journalPlaysSpec).pre6 enc Try.prog Try.f6 Rows.journalPlaysUptoRow.domain false) (((Rows.OpenSpec.upto Rows.journalPlaysSpec).at F).post enc Try.prog Try.f6 false true false false) := by
  refine returnsInHanded_of_cond_sized (C := Try.checked) (s := Rows.OpenSpec.upto Rows.journalPlaysSpec) (k := Rows.uptoSmall) rfl own started (by kernel_rfl) Try.func6
    (OpenSpec.witness (enc := enc) (C := Try.checked) (s := Rows.OpenSpec.upto Rows.journalPlaysSpec) (k := Rows.uptoSmall) rfl false ⟨#[], #[.int .i64 0, .slice none 0 0], []⟩ 8 (by kernel_rfl) (by kernel_rfl) (by kernel_rfl)
      (x := ([.lit (.int .i64 0), .nil], [], [])) (by kernel_rfl) rfl (by kernel_rfl)) ?_
  intro W base args ds gs before hval hW _ hk _ _
  exact contract H enc W base args ds gs before hval hW hk
theorem proved : Rows.JournalPlaysUptoSaid :=
  OpenClaim.holds_of_cond 6 Try.f6 rfl rfl rfl rfl rfl rfl rfl ⟨rfl, rfl, rfl, rfl, rfl⟩ rfl rfl rfl rfl rfl (by kernel_rfl) Try.func6 (by kernel_rfl)
    (of_decide_eq_true (by kernel_rfl)) (by unfold Func.isWrapper; first | (rw [if_pos (by decide +kernel)]; kernel_rfl) | (rw [if_neg (by decide +kernel)]; exact ⟨rfl, rfl⟩))
    (fun os started H enc _ F => lifted os started H enc F)
#print axioms proved
end Go.Proofs.Ytjdgaphjjhhjeaa.journalPlays
namespace Go.Proofs.Ytjdgaphjjhhjeaa
/-- The row, under a short name, for the claim. -/
theorem journalPlays_holds : Rows.JournalPlaysUptoSaid := journalPlays.proved
end Go.Proofs.Ytjdgaphjjhhjeaa
