import Derived.Test.YtjemnldcpafepaaQnode
/- A node that nobody made; and what must come. -/
namespace Go.Proofs.Ytjemnldcpafepaa.Hand
open Go.RowKit Go.Proofs.YtjemnldcpafepaaW.PrintWords Go.Proofs.YtjemnldcpafepaaW.PrintLast Go.Proofs.YtjemnldcpafepaaW.PrintMore
set_option linter.unusedVariables false
set_option linter.unusedSimpArgs false
def NotGiven (w : World) (v : Value) : Prop := v = .pointer none ∨ ∃ b x, v = pn b ∧ NodeAt w b x ∧ x.nodes ≤ 0
theorem given_no (v : Value) (w : World) (h : NotGiven w v) :
    Calls Try.prog 22 #[v] w fun e w' => e = .returned (.bool false) ∧ ∃ n, w' = w.drewN n := by
  rcases h with rfl | ⟨b, x, rfl, h, hn⟩
  · go_enter Try.func22, Try.ntmps22
    go_wp2
    go_ret
    exact ⟨rfl, by first | exact ⟨0, rfl⟩ | exact ⟨_, rfl⟩⟩
  · refine (given_calls b x w h).mono ?_
    rintro e w1 ⟨rfl, n, rfl⟩
    exact ⟨by rw [decide_eq_false (show ¬ 0 < x.nodes by omega)], n, rfl⟩
theorem take_no (v : Value) (frm : Int) (w : World) (h : NotGiven w v) :
    Calls Try.prog 15 #[v, .int .i64 frm] w fun e w' => e = .returned (.tuple #[.int .i64 (-1), .int .i64 1]) ∧ ∃ n, w' = w.drewN n := by
  go_enter Try.func15, Try.ntmps15
  go_wp2_with (go_at_call 22; refine (given_no v _ h).mono ?_; rintro e w1 ⟨rfl, nd, rfl⟩)
  go_ret2
  exact ⟨rfl, by first | exact ⟨0, rfl⟩ | exact ⟨_, rfl⟩⟩
theorem rest_no (v : Value) (w : World) (h : NotGiven w v) :
    Calls Try.prog 16 #[v] w fun e w' => e = .returned (.tuple #[.int .i64 (-1), .int .i64 1]) ∧ ∃ n, w' = w.drewN n := by
  go_enter Try.func16, Try.ntmps16
  go_wp2_with (go_at_call 22; refine (given_no v _ h).mono ?_; rintro e w1 ⟨rfl, nd, rfl⟩)
  go_ret2
  exact ⟨rfl, by first | exact ⟨0, rfl⟩ | exact ⟨_, rfl⟩⟩
theorem send_no (v : Value) (k : Int) (w : World) (h : NotGiven w v) :
    Calls Try.prog 17 #[v, .int .i64 k] w fun e w' => e = .returned (.int .i64 1) ∧ ∃ n, w' = w.drewN n := by
  go_enter Try.func17, Try.ntmps17
  go_wp2_with (go_at_call 22; refine (given_no v _ h).mono ?_; rintro e w1 ⟨rfl, nd, rfl⟩)
  go_ret
  exact ⟨rfl, by first | exact ⟨0, rfl⟩ | exact ⟨_, rfl⟩⟩
theorem told_no (v : Value) (w : World) (h : NotGiven w v) :
    Calls Try.prog 18 #[v] w fun e w' => e = .returned (.int .i64 1) ∧ ∃ n, w' = w.drewN n := by
  go_enter Try.func18, Try.ntmps18
  go_wp2_with (go_at_call 22; refine (given_no v _ h).mono ?_; rintro e w1 ⟨rfl, nd, rfl⟩)
  go_ret
  exact ⟨rfl, by first | exact ⟨0, rfl⟩ | exact ⟨_, rfl⟩⟩
theorem owes_no (v : Value) (w : World) (h : NotGiven w v) :
    Calls Try.prog 19 #[v] w fun e w' => e = .returned (.int .i64 0) ∧ ∃ n, w' = w.drewN n := by
  go_enter Try.func19, Try.ntmps19
  go_wp2_with (go_at_call 22; refine (given_no v _ h).mono ?_; rintro e w1 ⟨rfl, nd, rfl⟩)
  go_ret
  exact ⟨rfl, by first | exact ⟨0, rfl⟩ | exact ⟨_, rfl⟩⟩
theorem works_no (v : Value) (w : World) (h : NotGiven w v) :
    Calls Try.prog 20 #[v] w fun e w' => e = .returned (.bool false) ∧ ∃ n, w' = w.drewN n := by
  go_enter Try.func20, Try.ntmps20
  go_wp2_with (go_at_call 22; refine (given_no v _ h).mono ?_; rintro e w1 ⟨rfl, nd, rfl⟩)
  go_ret
  exact ⟨rfl, by first | exact ⟨0, rfl⟩ | exact ⟨_, rfl⟩⟩
theorem done_no (v : Value) (w : World) (h : NotGiven w v) :
    Calls Try.prog 12 #[v] w fun e w' => e = .returned (.bool false) ∧ ∃ n, w' = w.drewN n := by
  go_enter Try.func12, Try.ntmps12
  go_wp2_with (go_at_call 22; refine (given_no v _ h).mono ?_; rintro e w1 ⟨rfl, nd, rfl⟩)
  go_ret
  exact ⟨rfl, by first | exact ⟨0, rfl⟩ | exact ⟨_, rfl⟩⟩
end Go.Proofs.Ytjemnldcpafepaa.Hand
