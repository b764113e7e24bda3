import Derived.Test.YtjemnldcpafepaaAbZ14
/- sinewlaw14.QuietOwes. -/
namespace Go.Ab
open Go.RowKit
set_option linter.unusedVariables false
set_option linter.unusedSimpArgs false
variable {n v k g : Nat} {S : Sw} {st : St}

def sumTo (f : Nat → Nat) : Nat → Nat
  | 0 => 0
  | n + 1 => sumTo f n + f n
theorem sumTo_add (f h : Nat → Nat) : ∀ n, sumTo (fun i => f i + h i) n = sumTo f n + sumTo h n
  | 0 => rfl
  | n + 1 => by simp only [sumTo, sumTo_add f h n]; omega
theorem sumTo_ind (a : Nat) : ∀ n, sumTo (fun i => if a = i then 1 else 0) n = if a < n then 1 else 0
  | 0 => by simp [sumTo]
  | n + 1 => by
    simp only [sumTo, sumTo_ind a n]
    by_cases h : a < n
    · rw [if_pos h, if_neg (by omega), if_pos (by omega)]
    · rw [if_neg h]; by_cases e : a = n
      · rw [if_pos e, if_pos (by omega)]
      · rw [if_neg e, if_neg (by omega)]
theorem sumTo_congr {f h : Nat → Nat} : ∀ n, (∀ i, i < n → f i = h i) → sumTo f n = sumTo h n
  | 0, _ => rfl
  | n + 1, e => by simp only [sumTo, sumTo_congr n (fun i hi => e i (by omega)), e n (by omega)]
theorem sumTo_le {f : Nat → Nat} {M : Nat} : ∀ n, (∀ i, i < n → f i ≤ M) → sumTo f n ≤ n * M
  | 0, _ => by simp [sumTo]
  | n + 1, e => by have := sumTo_le n (fun i hi => e i (by omega)); have := e n (by omega); simp only [sumTo]; rw [Nat.succ_mul]; omega
theorem sumTo_count {α : Type} (f : α → Nat) (n : Nat) : ∀ (l : List α), (∀ x ∈ l, f x < n) → sumTo (fun i => l.countP fun x => f x == i) n = l.length
  | [], _ => by
    have z : ∀ n, sumTo (fun i => ([] : List α).countP fun x => f x == i) n = 0 := by intro n; induction n with | zero => rfl | succ n ih => show sumTo _ n + 0 = 0; rw [ih]
    rw [z]; rfl
  | a :: l, h => by
    have e : sumTo (fun i => (a :: l).countP fun x => f x == i) n = sumTo (fun i => (l.countP fun x => f x == i) + if f a = i then 1 else 0) n := by
      apply sumTo_congr; intro i _; simp only [List.countP_cons, beq_iff_eq]
    rw [e, sumTo_add, sumTo_count f n l (fun x hx => h x (by simp [hx])), sumTo_ind, if_pos (h a (by simp))]
    rfl

def eng (S : Sw) (j : Nat) : Bool := decide (j ≠ 0) && (S.nd j).works
theorem owes_sum (h : Inv n S) : sumTo (fun i => (S.nd i).debt) n = S.under.length + S.tells.length + (List.range n).countP (eng S) := by
  have e1 : sumTo (fun i => (S.nd i).debt) n = sumTo (fun i => (S.under.countP (fun m => m.1 == i) + S.tells.countP (fun x => x == i)) + ((List.range n).filter (eng S)).countP (fun j => (S.nd j).parent.toNat == i)) n := by
    apply sumTo_congr
    intro i hi
    rw [h.debt i hi]
    congr 1
    rw [List.countP_filter]
    unfold kids
    apply List.countP_congr
    intro j hj
    have hj' : j < n := by simpa using hj
    simp only [child, eng]
    by_cases h0 : j = 0
    · simp [h0]
    · cases hw : (S.nd j).works with
      | false => simp
      | true =>
        obtain ⟨p, hp, hpp⟩ := h.par j hj' h0 hw
        simp [h0, hpp]; omega
  rw [e1, sumTo_add, sumTo_add, sumTo_count (fun (m : Nat × Nat) => m.1) n S.under (fun m hm => (h.under m hm).1), sumTo_count (fun (x : Nat) => x) n S.tells h.tells,
    sumTo_count (fun j => (S.nd j).parent.toNat) n _ (by
      intro j hj
      simp only [List.mem_filter, eng, Bool.and_eq_true, decide_eq_true_eq, List.mem_range] at hj
      obtain ⟨p, hp, hpp⟩ := h.par j hj.1 hj.2.1 hj.2.2
      rw [hpp]; simpa using hp), ← List.countP_eq_length_filter]

theorem owes_inner (h : Wd n g k st S) (hn : n ≤ 65) (hk : k ≤ 10000) (L1 : V → V → V → V → St → Res) (x1 : V) {i : Nat} (hi : i < 100000) : ∀ (c N j : Nat), j + c = n → c < N →
    g6b1110100100111010 L1 N x1 (.int .i64 (n : Nat)) (.ptr g 0) (.int .i64 (i : Nat)) (.int .i64 (sumTo (fun i => (S.nd i).debt) j : Nat)) (.int .i64 ((List.range j).countP (eng S) : Nat)) (.int .i64 (j : Nat)) st = L1 x1 (.int .i64 (n : Nat)) (.ptr g 0) (.int .i64 ((i + 1 : Nat) : Int)) st
  | 0, N + 1, j, hj, hN => by
    have e : j = n := by omega
    subst e
    obtain ⟨⟨ids, wid, tn, tu, tt, ha⟩, hi', hb⟩ := h
    have hs := owes_sum hi'
    have hu := hb.u
    have ht := hb.t
    have hc := List.countP_le_length (l := List.range j) (p := eng S)
    simp at hc
    have a1 : ∀ K, A.bin .add (.int .i64 (S.under.length : Nat)) (.int .i64 (S.tells.length : Nat)) K = K (.int .i64 ((S.under.length + S.tells.length : Nat) : Int)) := fun K => bin_addN _ _ K (by omega)
    have a2 : ∀ K, A.bin .add (.int .i64 ((S.under.length + S.tells.length : Nat) : Int)) (.int .i64 ((List.range j).countP (eng S) : Nat)) K = K (.int .i64 ((S.under.length + S.tells.length + (List.range j).countP (eng S) : Nat) : Int)) := fun K => bin_addN _ _ K (by omega)
    have a3 : ∀ K, A.bin .add (.int .i64 (i : Nat)) (.int .i64 1) K = K (.int .i64 ((i + 1 : Nat) : Int)) := fun K => bin_addN i 1 K (by omega)
    simp only [Int.natCast_add] at a1 a2
    simp [g6b1110100100111010, ha.w, hs, a1, a2, a3]
  | c + 1, N + 1, j, hj, hN => by
    have ih := owes_inner h hn hk L1 x1 hi c N (j + 1) (by omega) (by omega)
    obtain ⟨⟨ids, wid, tn, tu, tt, ha⟩, hi', hb⟩ := h
    have hlt : j < n := by omega
    have hlt' : (j : Int) < n := by omega
    have ho := owes_s (ha.d j hlt) ha.n0
    have hw := works_s (ha.d j hlt) ha.n0
    have hd := hi'.debt_le hb hlt
    have hsl := sumTo_le (f := fun i => (S.nd i).debt) (M := 3 * k + n) j (fun a ha => hi'.debt_le hb (by omega))
    have hsl2 : j * (3 * k + n) ≤ 65 * (3 * k + n) := Nat.mul_le_mul_right _ (by omega)
    have hc := List.countP_le_length (l := List.range j) (p := eng S)
    simp at hc
    have a1 : ∀ K, A.bin .add (.int .i64 (sumTo (fun i => (S.nd i).debt) j : Nat)) (.int .i64 ((S.nd j).debt : Nat)) K = K (.int .i64 ((sumTo (fun i => (S.nd i).debt) (j + 1) : Nat) : Int)) := fun K => bin_addN _ _ K (by omega)
    have a2 : ∀ K, A.bin .add (.int .i64 ((List.range j).countP (eng S) : Nat)) (.int .i64 1) K = K (.int .i64 (((List.range j).countP (eng S) + 1 : Nat) : Int)) := fun K => bin_addN ((List.range j).countP (eng S)) 1 K (by omega)
    have a3 : ∀ K, A.bin .add (.int .i64 (j : Nat)) (.int .i64 1) K = K (.int .i64 ((j + 1 : Nat) : Int)) := fun K => bin_addN j 1 K (by omega)
    have e2 : (List.range (j + 1)).countP (eng S) = (List.range j).countP (eng S) + (eng S j).toNat := by
      rw [List.range_succ, List.countP_append]; cases h : eng S j <;> simp [List.countP_cons, h]
    rw [e2] at ih
    by_cases h0 : j = 0
    · subst h0
      have e3 : eng S 0 = false := by simp [eng]
      rw [e3] at ih
      have ia : ∀ K, A.iaddr 1 (.lst (nodesV n ids) tn) (.int .i64 0) K = K (.lptr [.ptr (ids 0) 0]) := fun K => iaddr_lst (n := 0) K (nodesV_get hlt) rfl
      simp at ih a1 a3 a2
      simp [g6b1110100100111010, g6b111010010011101001001, ha.w, hlt, hlt', ia, ho, a1, a3, ih]
    · have hj0 : (0 : Int) < j := by omega
      cases hwk : (S.nd j).works with
      | false =>
        have e3 : eng S j = false := by simp [eng, hwk]
        rw [e3] at ih
        simp at ih a1 a3 a2
        simp [g6b1110100100111010, g6b111010010011101001001, ha.w, hlt, hlt', iaddr_lst, ho, hw, hwk, hj0, h0, a1, a3, ih, Nat.pos_of_ne_zero h0]
      | true =>
        have e3 : eng S j = true := by simp [eng, hwk, h0]
        rw [e3] at ih
        simp at ih a1 a3 a2
        simp [g6b1110100100111010, g6b111010010011101001001, ha.w, hlt, hlt', iaddr_lst, ho, hw, hwk, hj0, h0, a1, a2, a3, ih, Nat.pos_of_ne_zero h0]
theorem owes_step (h : Wd n g k st S) (h0 : 0 < n) (hn : n ≤ 65) (hk : k ≤ 9000) (L : V → V → V → V → St → Res) (xs : List Int) (t : Nat) {i : Nat} (hi : i < xs.length) (hi2 : i < 100000) :
    ∃ st' S', g6b11101001 L (.lst (intsV xs) t) (.int .i64 (n : Nat)) (.ptr g 0) (.int .i64 (i : Nat)) st = L (.lst (intsV xs) t) (.int .i64 (n : Nat)) (.ptr g 0) (.int .i64 ((i + 1 : Nat) : Int)) st' ∧ Wd n g (k + 1) st' S' := by
  have fin : ∀ st' S', Wd n g (k + 1) st' S' → g6b111010010011 L (.lst (intsV xs) t) (.int .i64 (n : Nat)) (.ptr g 0) (.int .i64 (i : Nat)) st' = L (.lst (intsV xs) t) (.int .i64 (n : Nat)) (.ptr g 0) (.int .i64 ((i + 1 : Nat) : Int)) st' := by
    intro st' S' hw
    have := owes_inner hw hn (by omega) L (.lst (intsV xs) t) hi2 n big 0 (by omega) (by have := big_le; omega)
    exact this
  have hx : ∀ K, A.iaddr 1 (.lst (intsV xs) t) (.int .i64 (i : Nat)) K = K (.lptr [.int .i64 xs[i]]) := fun K => iaddr_lst (v := .int .i64 xs[i]) K (by simp [intsV, hi]) rfl
  generalize hb : low 65536 xs[i] = b
  have s2 : ∀ K, A.bin .shr (.int .i64 (b : Nat)) (.int .u64 2) K = K (.int .i64 ((b / 4 : Nat) : Int)) := fun K => bin_shrL b 2 .u64 K (by omega)
  have s5 : ∀ K, A.bin .shr (.int .i64 (b : Nat)) (.int .u64 5) K = K (.int .i64 ((b / 32 : Nat) : Int)) := fun K => bin_shrL b 5 .u64 K (by omega)
  have s10 : ∀ K, A.bin .shr (.int .i64 (b : Nat)) (.int .u64 10) K = K (.int .i64 ((b / 1024 : Nat) : Int)) := fun K => bin_shrL b 10 .u64 K (by omega)
  have r2 : ∀ K, A.bin .rem (.int .i64 ((b / 4 : Nat) : Int)) (.int .i64 (n : Nat)) K = K (.int .i64 ((b / 4 % n : Nat) : Int)) := fun K => bin_remN _ _ K h0
  have r5 : ∀ K, A.bin .rem (.int .i64 ((b / 32 : Nat) : Int)) (.int .i64 (n : Nat)) K = K (.int .i64 ((b / 32 % n : Nat) : Int)) := fun K => bin_remN _ _ K h0
  generalize hq : low 4 (b : Nat) = q
  generalize b / 4 = b4 at s2 r2
  generalize b / 32 = b32 at s5 r5
  generalize hb10 : b / 1024 = b10 at s10
  have l4 : b4 % n < n := Nat.mod_lt _ h0
  have l32 : b32 % n < n := Nat.mod_lt _ h0
  generalize b4 % n = v4 at r2 l4
  generalize b32 % n = v32 at r5 l32
  by_cases q0 : q = 0
  · obtain ⟨st', S', e1, e2⟩ := do_send h hn (by omega) l4 l32
    refine ⟨st', S', ?_, e2⟩
    simp [g6b11101001, hx, hb, hq, q0, s2, s5, r2, r5, e1, fin st' S' e2]
  · by_cases q1 : q = 1
    · have hm : low 4 (b10 : Nat) ≤ 3 := by have := low_lt 4 (b10 : Nat) (by decide); omega
      obtain ⟨st', S', e1, e2, _⟩ := do_come h hn (by omega) (b4 : Nat) hm
      refine ⟨st', S', ?_, e2⟩
      simp [g6b11101001, g6b11101001001010111, hx, hb, hq, q1, s2, s10, e1, fin st' S' e2]
    · have z0 : ((q : Int) == 0) = false := by simp; omega
      have z1 : ((q : Int) == 1) = false := by simp; omega
      by_cases q2 : q = 2
      · obtain ⟨st', S', e1, e2, _⟩ := do_tell h hn (by omega) (b4 : Nat)
        refine ⟨st', S', ?_, e2⟩
        simp [g6b11101001, g6b11101001001010111, hx, hb, hq, q2, s2, e1, fin st' S' e2]
      · have z2 : ((q : Int) == 2) = false := by simp; omega
        obtain ⟨st', e1, e2⟩ := do_rest h (by omega) l4
        refine ⟨st', _, ?_, e2⟩
        simp [g6b11101001, g6b11101001001010111, hx, hb, hq, z0, z1, z2, s2, r2, e1, fin st' _ e2]

theorem owes_outer (h0 : 0 < n) (hn : n ≤ 65) (xs : List Int) (t : Nat) : ∀ (c N i k : Nat) (st : St) (S : Sw), i + c = 200 → c < N → k ≤ i → Wd n g k st S →
    ∃ st', g6b111010 N (.lst (intsV xs) t) (.int .i64 (n : Nat)) (.ptr g 0) (.int .i64 (i : Nat)) st = some (.ret (.bool true), st')
  | 0, N + 1, i, k, st, S, hi, hN, hk, h => by
    have e : i = 200 := by omega
    subst e
    obtain ⟨⟨ids, wid, tn, tu, tt, ha⟩, hi', hb⟩ := h
    obtain ⟨st', hw⟩ := awake_s st
    refine ⟨st', ?_⟩
    have ok := hi'.ok
    by_cases hl : (200 : Int) < xs.length
    · simp [g6b111010, hl, ha.w, ok, hw]
    · simp [g6b111010, hl, ha.w, ok, hw]
  | c + 1, N + 1, i, k, st, S, hi, hN, hk, h => by
    by_cases hl : i < xs.length
    · obtain ⟨st', S', e1, e2⟩ := owes_step h h0 hn (by omega) (g6b111010 N) xs t hl (by omega)
      obtain ⟨st2, e3⟩ := owes_outer h0 hn xs t c N (i + 1) (k + 1) st' S' (by omega) (by omega) (by omega) e2
      refine ⟨st2, ?_⟩
      have h2 : (i : Int) < 200 := by omega
      obtain ⟨⟨ids, wid, tn, tu, tt, ha⟩, hi', hb⟩ := h
      rw [e3] at e1
      simp [g6b111010, hl, h2, ha.w, hi'.ok, e1]
    · obtain ⟨⟨ids, wid, tn, tu, tt, ha⟩, hi', hb⟩ := h
      obtain ⟨st', hw⟩ := awake_s st
      refine ⟨st', ?_⟩
      simp [g6b111010, hl, ha.w, hi'.ok, hw]
theorem owes_law (x : Int) (xs : List Int) (t : Nat) (st : St) : ∃ st', s6 [.int .i64 x, .lst (intsV xs) t] st = some (.ret (.bool true), st') := by
  have hr : ∀ K, A.bin .rem (.int .i64 (low 65536 x : Nat)) (.int .i64 6) K = K (.int .i64 ((low 65536 x % 6 : Nat) : Int)) := fun K => bin_remN _ 6 K (by decide)
  have hl : low 65536 x % 6 < 6 := Nat.mod_lt _ (by decide)
  generalize low 65536 x % 6 = b at hr hl
  have ha : ∀ K, A.bin .add (.int .i64 1) (.int .i64 (b : Nat)) K = K (.int .i64 ((1 + b : Nat) : Int)) := fun K => bin_addN 1 b K (by omega)
  obtain ⟨st1, ids, wid, tn, r1, r2⟩ := begun_s (n := 1 + b) (st := st) (by omega) (by omega) 4 (.inr trivial)
  have hw : Wd (1 + b) st.n 0 st1 ⟨Nd.init, [], [], upd (fun _ => 0) 0 4, true⟩ := ⟨⟨_, _, _, _, _, r2⟩, Inv.init (by omega) 4, ⟨by simp, by simp, fun i => by simp only [upd]; split <;> omega⟩⟩
  obtain ⟨st', r3⟩ := owes_outer (by omega) (by omega) xs t 200 big 0 0 st1 _ (by omega) (by have := big_le; omega) (by omega) hw
  refine ⟨st', ?_⟩
  rw [s6_eq]
  simp at ha r1 r3
  simp [f6, hr, ha, r1, r3]
end Go.Ab
