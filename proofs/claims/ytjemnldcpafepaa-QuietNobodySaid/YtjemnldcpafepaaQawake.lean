import Derived.Test.YtjemnldcpafepaaQnone
/- What must come. -/
namespace Go.Proofs.Ytjemnldcpafepaa.Hand
open Go.RowKit Go.Proofs.YtjemnldcpafepaaW.PrintWords Go.Proofs.YtjemnldcpafepaaW.PrintLast Go.Proofs.YtjemnldcpafepaaW.PrintMore
set_option linter.unusedVariables false
set_option linter.unusedSimpArgs false
theorem upd_below {w w' : World} {b B : Nat} {t : TypeId} {cs : Array Value} (h : UpdC w w' b t cs) (hb : B ≤ b) : Below B w w' :=
  ⟨h.os, h.tape, h.output, Nat.le_of_eq h.size.symm, fun k hk => h.other k (by omega)⟩
theorem below_drewN' (w : World) (n B : Nat) : Below B w (w.drewN n) := pw_below_drewN (Below.refl _ _) n
theorem node_other {w w' : World} {b c : Nat} {t : TypeId} {cs : Array Value} {x : ND} (h : UpdC w w' b t cs) (hc : NodeAt w c x) (hne : c ≠ b) : NodeAt w' c x := (h.other c hne).trans hc
set_option maxHeartbeats 1000000 in
set_option maxRecDepth 100000 in
theorem awake_calls (w : World) : Calls Try.prog 14 #[] w fun e w' => e = .returned (.bool true) ∧ Below w.heap.size w w' := by
  go_enter Try.func14, Try.ntmps14
  go_wp2_with (go_at_call 21; with_reducible refine (new_calls 0 2 true _ (by decide) (by decide) (by decide) (by decide)).mono ?_; rintro e w1 ⟨b1, rfl, hb1, NA, B1, S1⟩)
  go_wp2_with (go_at_call 21; with_reducible refine (new_calls 1 2 false _ (by decide) (by decide) (by decide) (by decide)).mono ?_; rintro e w2 ⟨b2, rfl, hb2, NB, B2, S2⟩)
  have NA2 : NodeAt w2 b1 (ND.new 2 true) := (B2.block b1 (by omega)).trans NA
  clear NA
  have BB : Below w.heap.size w w2 := below_then B1 B1.size B2
  go_wp2_with (go_at_call 20; with_reducible refine (works_calls b1 _ _ NA2 (by decide)).mono ?_; rintro e w3 ⟨rfl, n1, rfl⟩; rw [show (ND.new 2 true).works = true from rfl])
  go_wp2_with (go_at_call 20; with_reducible refine (works_calls b2 _ _ (drewN_node NB _) (by decide)).mono ?_; rintro e w3 ⟨rfl, n2, rfl⟩; rw [show (ND.new 2 false).works = false from rfl])
  go_wp2_with (go_at_call 17; with_reducible refine (send_calls b1 _ _ (drewN_node NA2 _) (by decide) (by decide) (by decide)).mono ?_; rintro e w4 ⟨rfl, U4⟩; rw [show (ND.new 2 true).send.2 = 0 from rfl])
  have hne : b2 ≠ b1 := by omega
  have NB4 : NodeAt w4 b2 (ND.new 2 false) := node_other U4 (drewN_node NB _) hne
  have NA4 : NodeAt w4 b1 (ND.new 2 true).send.1 := U4.here
  have BB4 : Below w.heap.size w w4 := (below_drewN' w2 _ _).trans (upd_below U4 hb1) |> BB.trans
  go_wp2_with (go_at_call 15; with_reducible refine (take_calls b2 _ 0 _ NB4 (by decide) (by decide)).mono ?_; rintro e w5 ⟨rfl, U5⟩; rw [show ((ND.new 2 false).take 0).2.1 = -1 from rfl, show ((ND.new 2 false).take 0).2.2 = 0 from rfl])
  have NA5 : NodeAt w5 b1 (ND.new 2 true).send.1 := node_other U5 NA4 (Ne.symm hne)
  have NB5 : NodeAt w5 b2 ((ND.new 2 false).take 0).1 := U5.here
  have BB5 : Below w.heap.size w w5 := BB4.trans (upd_below U5 (by have := B1.size; omega))
  go_wp2_with (go_at_call 16; with_reducible refine (rest_calls b2 _ _ NB5 (by decide)).mono ?_; rintro e w6 ⟨rfl, U6⟩; rw [show ((ND.new 2 false).take 0).1.rest.2.1 = 0 from rfl, show ((ND.new 2 false).take 0).1.rest.2.2 = 0 from rfl])
  have NA6 : NodeAt w6 b1 (ND.new 2 true).send.1 := node_other U6 NA5 (Ne.symm hne)
  have BB6 : Below w.heap.size w w6 := BB5.trans (upd_below U6 (by have := B1.size; omega))
  go_wp2_with (go_at_call 18; with_reducible refine (told_calls b1 _ _ NA6 (by decide) (by decide) (by decide)).mono ?_; rintro e w7 ⟨rfl, U7⟩; rw [show (ND.new 2 true).send.1.told.2 = 0 from rfl])
  have NA7 : NodeAt w7 b1 (ND.new 2 true).send.1.told.1 := U7.here
  have BB7 : Below w.heap.size w w7 := BB6.trans (upd_below U7 hb1)
  go_wp2_with (go_at_call 19; with_reducible refine (nodeOwes_calls b1 _ _ NA7 (by decide)).mono ?_; rintro e w8 ⟨rfl, n8, rfl⟩; rw [show (ND.new 2 true).send.1.told.1.n = 0 from rfl])
  go_wp2_with (go_at_call 12; with_reducible refine (done_calls b1 _ _ (drewN_node NA7 _) (by decide)).mono ?_; rintro e w9 ⟨rfl, n9, rfl⟩; rw [show (ND.new 2 true).send.1.told.1.done = false from rfl])
  go_ret
  exact ⟨rfl, BB7.trans (by repeat (first | exact below_drewN' _ _ _ | exact Below.refl _ _))⟩
end Go.Proofs.Ytjemnldcpafepaa.Hand
