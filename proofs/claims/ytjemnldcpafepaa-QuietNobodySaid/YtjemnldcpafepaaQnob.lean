import Derived.Test.YtjemnldcpafepaaQawake
/- QuietNobody. -/
namespace Go.Proofs.Ytjemnldcpafepaa.Hand
open Go.RowKit Go.Proofs.YtjemnldcpafepaaW.PrintWords Go.Proofs.YtjemnldcpafepaaW.PrintLast Go.Proofs.YtjemnldcpafepaaW.PrintMore
set_option linter.unusedVariables false
set_option linter.unusedSimpArgs false
set_option maxHeartbeats 1000000 in
set_option maxRecDepth 100000 in
theorem nobody_calls (n : Int) (w : World) : Calls Try.prog 5 #[.int .i64 n] w fun e w' => e = .returned (.bool true) ∧ Below w.heap.size w w' := by
  go_enter Try.func5, Try.ntmps5
  go_wp2_with fail
  go_loopw [4] (fun v4 wr => ∃ k : Nat, k ≤ 2 ∧ v4 = .int .i64 k ∧ NodeAt wr w.heap.size ⟨0, 0, false, false, false, 0⟩ ∧ wr.heap[w.heap.size + 1]? = some (.cells #[.pointer none, pn w.heap.size] 32 (0, 0)) ∧ Below w.heap.size w wr) (fun v4 _ => 2 - (intOf v4).toNat)
  case atStart => exact ⟨0, by omega, rfl, blk_alloc (blk_new _ _) _, by have h := blk_new (w.alloc (.cells #[.int .i64 0, .int .i64 0, .bool false, .bool false, .bool false, .int .i64 0] 39 (0, 0))) (.cells #[.pointer none, pn w.heap.size] 32 (0, 0)); simpa using h, below_alloc (below_alloc (Below.refl _ _) _) _⟩
  case round =>
    obtain ⟨k, hk, rfl, hn, hc, hbel⟩ := hrel
    by_cases hlt : k < 2
    · obtain ⟨v, hcell, hv⟩ : ∃ v, wr.cell? ⟨w.heap.size + 1, k, none⟩ = some v ∧ NotGiven wr v := by
        rcases (by omega : k = 0 ∨ k = 1) with rfl | rfl
        · exact ⟨.pointer none, (blk_cell hc 0).trans rfl, .inl rfl⟩
        · exact ⟨pn w.heap.size, (blk_cell hc 1).trans rfl, .inr ⟨_, _, rfl, hn, by decide⟩⟩
      have HN := Lib.hid hn
      have HC := Lib.hid hc
      clear hn hc
      have ng : ∀ m, NotGiven (wr.drewN m) v := fun m => hv
      have c1 : decide ((k : Int) < 2) = true := decide_eq_true (by omega)
      go_wp2_with (first
        | (go_at_call 15; with_reducible refine (take_no v n _ hv).mono ?_; rintro e w1 ⟨rfl, n1, rfl⟩)
        | (go_at_call 16; with_reducible refine (rest_no v _ (ng _)).mono ?_; rintro e w1 ⟨rfl, n2, rfl⟩)
        | (go_at_call 17; with_reducible refine (send_no v n _ (ng _)).mono ?_; rintro e w1 ⟨rfl, n3, rfl⟩)
        | (go_at_call 18; with_reducible refine (told_no v _ (ng _)).mono ?_; rintro e w1 ⟨rfl, n4, rfl⟩)
        | (go_at_call 19; with_reducible refine (owes_no v _ (ng _)).mono ?_; rintro e w1 ⟨rfl, n5, rfl⟩)
        | (go_at_call 20; with_reducible refine (works_no v _ (ng _)).mono ?_; rintro e w1 ⟨rfl, n6, rfl⟩)
        | (go_at_call 12; with_reducible refine (done_no v _ (ng _)).mono ?_; rintro e w1 ⟨rfl, n7, rfl⟩))
      exact ⟨⟨k + 1, by omega, by first | rfl | go_num, HN.out, HC.out, pw_below_drewN hbel _⟩, by simp [intOf]; omega⟩
    · have HN := Lib.hid hn
      have HC := Lib.hid hc
      clear hn hc
      have c1 : decide ((k : Int) < 2) = false := decide_eq_false (by omega)
      have e2 : (k : Int) = 2 := by omega
      rw [e2]
      go_wp2_with (go_at_call 14; with_reducible refine (awake_calls _).mono ?_; rintro e w1 ⟨rfl, hb2⟩)
      go_ret
      exact ⟨rfl, below_then hbel hbel.size hb2⟩
theorem nobody_row (n : Int) (w : World) (h : (Lit.int .i64 n).wf = true) : Calls Try.prog 5 #[.int .i64 n] w fun e w' => e = .returned (.bool true) ∧ Below w.heap.size w w' := nobody_calls n w
end Go.Proofs.Ytjemnldcpafepaa.Hand
