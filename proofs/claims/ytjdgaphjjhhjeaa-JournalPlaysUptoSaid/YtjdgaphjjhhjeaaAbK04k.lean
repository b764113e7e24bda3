import Derived.Test.YtjdgaphjjhhjeaaAbP04F
/- sinewref04.Begin; sinewlaw04.does. -/
namespace Go.Ab
open Go.Proofs Go.RowKit Go.Oct
set_option linter.unusedVariables false
set_option linter.unusedSimpArgs false
set_option maxRecDepth 100000
/-- What the reference's Begin leaves. -/
def rbegin (room sure : Nat) (G l : List Note) : V := if (jbegin room l).1 = 0 then rjV room (packsB l).length l else rjV room sure G
theorem rj_resn {st0 st : St} {q r s t u r' s' t' u' : Nat} {G G' : List Note} (k : Ks st0 st) (hq : st0.n ≤ q) (h : st.ob q = some (.cells (rjC r s G t u))) (e : Nat) (K : V → St → Res) (hK : K = fun v z => A.store 4 (.ptr q 0) v z fun z => A.res (rcell (A.load true 4 (.ptr q 0) z kid) (rtmp (.int .i64 (e : Nat)) (some []))) z) :
    ∃ (v : V) (st' : St), K (.agg (rjC r' s' G' t' u')) st = some (.ret v, st') ∧ Ks st0 st' ∧ v.era = .tup [rjV r' s' G', .int .i64 (e : Nat)] := by
  subst hK; exact rj_res k hq h e
theorem rputs_loop {room sure : Nat} {G l : List Note} (hr : room ≤ 67108864) (hl : l.length ≤ 9223372036854775807) (hn : ∀ n ∈ l, NoteOK n ∧ Upto n ∧ packOK n = true) {c q p : Nat} {st0 : St} (hq : st0.n ≤ q) (hp : st0.n ≤ p) (hcp : c ≠ p) (hqp : q ≠ p) :
    ∀ (f i : Nat) (st : St) (t u : Nat), i ≤ l.length → l.length < f + i → Ks st0 st → c < st.n → q < st.n → p < st.n → st.ob c = some (.cells (rjC room sure G 0 0)) → st.ob q = some (.cells (rjC 0 0 [] 1 1)) → st.ob p = some (.cells (rjC room 0 (l.take i) t u)) → (packsB (l.take i)).length ≤ room →
      ∃ (v : V) (st' : St), g29b111010 f (.lst (notesV l) 0) (.ptr c 0) (.ptr q 0) (.ptr p 0) (.int .i64 (i : Nat)) st = some (.ret v, st') ∧ Ks st0 st' ∧ v.era = .tup [if (jputs room (l.drop i) (packsB (l.take i))).1 = 0 then rjV room (packsB l).length l else rjV room sure G, .int .i64 ((jputs room (l.drop i) (packsB (l.take i))).1 : Nat)] := by
  intro f
  induction f with
  | zero => intro i st t u hi hf; omega
  | succ f ih =>
    intro i st t u hi hf hk hcn hqn hpn oc oq op hb
    have hge := pl_ge l i hi
    have hple : pl l i = (packsB (l.take i)).length := rfl
    obtain ⟨_, _, _, _, c4⟩ := rj_load oc
    obtain ⟨_, _, _, _, p4⟩ := rj_load op
    rw [g29b111010]
    rw [lenL_lst, notesV_len, bin_lss]
    by_cases hil : i < l.length
    · obtain ⟨n1, n2, n3⟩ := hn l[i] (List.getElem_mem hil)
      have e4 : ∀ K, A.bin .add (.int .i64 (i : Nat)) (.int .i64 1) K = K (.int .i64 ((i + 1 : Nat) : Int)) := fun K => bin_inc (by omega) K
      have hla : WArgs [rjV room 0 (l.take i), noteV l[i]] := ⟨room, 0, l.take i, l[i], rfl, by simp; omega, hb, hr, n1, n2⟩
      have hlen : (l.take i).length ≤ 67108864 := by simp; omega
      rw [decide_eq_true (show ((i : Int) < (l.length : Int)) by omega), cond_true, p4, iaddr_notes 0 hil, load_note, rj_er, er1_note, w26_eq hla, rwrite_s room 0 (l.take i) hlen hb hr _ n1 n2, ret_kid', ret_ret, ext_0, ext_1]
      have bx : ∀ (s : St) (K : V → St → Res), A.ret (A.box (.agg [.int .i64 0, .int .i64 0, .lst [] 1, .lst [] 1]) s kid) K = K (.ptr s.n 0) (s.new (.cells (rjC 0 0 [] 1 1))) := fun s K => rfl
      have sx : ∀ (s : St) (j r s' : Nat) (G' : List Note) (ho : s.ob j = some (.cells (rjC 0 0 [] 1 1))) (K : V → St → Res), A.ret (A.store 4 (.ptr j 0) (rjV r s' G') s fun s => kid (.tup []) s) K = K (.tup []) (s.put j (.cells (rjC r s' G' 0 0))) := fun s j r s' G' ho K => by
        unfold rjV; rw [rj_store ho]; rfl
      rw [bx, sx _ _ _ _ _ (new_at st _)]
      have k2 : Ks st0 ((st.new (.cells (rjC 0 0 [] 1 1))).put st.n (.cells (rjC room 0 (rwrite room (l.take i) l[i]).2 0 0))) := (hk.new _).put hk.n _
      have o2 := put_at (st.new (.cells (rjC 0 0 [] 1 1))) st.n (.cells (rjC room 0 (rwrite room (l.take i) l[i]).2 0 0))
      have old : ∀ j, j < st.n → ((st.new (.cells (rjC 0 0 [] 1 1))).put st.n (.cells (rjC room 0 (rwrite room (l.take i) l[i]).2 0 0))).ob j = st.ob j := fun j hj => by rw [put_ne _ _ (by omega), new_ne _ _ (by omega)]
      have nn : ((st.new (.cells (rjC 0 0 [] 1 1))).put st.n (.cells (rjC room 0 (rwrite room (l.take i) l[i]).2 0 0))).n = st.n + 1 := by simp
      generalize (st.new (.cells (rjC 0 0 [] 1 1))).put st.n (.cells (rjC room 0 (rwrite room (l.take i) l[i]).2 0 0)) = s2 at k2 o2 old nn ⊢
      have oc2 := (old c hcn).trans oc
      have oq2 := (old q hqn).trans oq
      have op2 := (old p hpn).trans op
      obtain ⟨_, _, _, _, c5⟩ := rj_load oc2
      obtain ⟨_, _, _, _, z5⟩ := rj_load o2
      unfold g29b11101001001
      rw [List.drop_eq_getElem_cons hil, jputs, eql_int, if_pos rfl]
      have hjw : jwrite room (packsB (l.take i)) l[i] = ((rwrite room (l.take i) l[i]).1, packsB (rwrite room (l.take i) l[i]).2) := by
        unfold jwrite rwrite
        rw [if_pos n3, if_pos n3]
        split
        · rfl
        · rw [packsB_snoc]
      rw [hjw]
      by_cases h0 : (rwrite room (l.take i) l[i]).1 = 0
      · have hfit : ¬ room < (packsB (l.take i)).length + (packB l[i]).length := fun g => by
          unfold rwrite at h0; rw [if_pos n3, if_pos g] at h0; simp at h0
        have h2 : (rwrite room (l.take i) l[i]).2 = l.take (i + 1) := by
          unfold rwrite; rw [if_pos n3, if_neg hfit, List.take_succ_eq_append_getElem hil]
        simp only [if_pos h0]
        rw [h2] at o2 z5 ⊢
        rw [h0, show (((0 : Nat) : Int) != 0) = false from rfl, cond_false, z5, rj_store op2, e4]
        have hb' : (packsB (l.take (i + 1))).length ≤ room := by rw [List.take_succ_eq_append_getElem hil, packsB_snoc, List.length_append]; omega
        exact ih (i + 1) _ 0 0 (by omega) (by omega) (k2.put hp _) (by simp; omega) (by simp; omega) (by simp; omega) (by rw [put_ne _ _ hcp]; exact oc2) (by rw [put_ne _ _ hqp]; exact oq2) (put_at _ _ _) hb'
      · simp only [if_neg h0]
        rw [show ((((rwrite room (l.take i) l[i]).1 : Nat) : Int) != 0) = true from bne_iff_ne.2 (by omega), cond_true, c5]
        obtain ⟨v, st', r1, r2, r3⟩ := rj_res (r' := room) (s' := sure) (G' := G) (t' := 0) (u' := 0) k2 hq oq2 (rwrite room (l.take i) l[i]).1
        exact ⟨v, st', r1, r2, r3⟩
    · have : i = l.length := by omega
      subst this
      rw [List.take_length] at op p4 hb ⊢
      rw [decide_eq_false (show ¬ ((l.length : Int) < (l.length : Int)) by omega), cond_false, p4, rj_er, List.drop_length, jputs, rsure_s _ _ _ (by rw [pl_all] at hge; omega), ret_ret]
      simp only [if_true]
      exact rj_resn (r' := room) (s' := (packsB l).length) (G' := l) (t' := 0) (u' := 0) hk hq oq 0 _ rfl
theorem rbegin_loop {room sure : Nat} {G l : List Note} (h1 : 1 ≤ room) (hr : room ≤ 67108864) (hl : l.length ≤ 9223372036854775807) (hn : ∀ n ∈ l, NoteOK n ∧ Upto n) {c q : Nat} {st0 st : St} (hq : st0.n ≤ q) (hcq : c ≠ q) (hk : Ks st0 st) (hcn : c < st.n) (hqn : q < st.n)
    (oc : st.ob c = some (.cells (rjC room sure G 0 0))) (oq : st.ob q = some (.cells (rjC 0 0 [] 1 1))) :
    ∀ (f i : Nat), i ≤ l.length → l.length < f + i → (∀ n ∈ l.take i, oddP n = false) →
      ∃ (v : V) (st' : St), g29b1010 f (.lst (notesV l) 0) (.ptr c 0) (.ptr q 0) (.int .i64 (i : Nat)) st = some (.ret v, st') ∧ Ks st0 st' ∧ v.era = .tup [rbegin room sure G l, .int .i64 ((jbegin room l).1 : Nat)] := by
  obtain ⟨c0, _, _, _, c4⟩ := rj_load oc
  intro f
  induction f with
  | zero => intro i hi hf; omega
  | succ f ih =>
    intro i hi hf hodd
    rw [g29b1010]
    rw [lenL_lst, notesV_len, bin_lss]
    by_cases hil : i < l.length
    · obtain ⟨n1, n2⟩ := hn l[i] (List.getElem_mem hil)
      have e4 : ∀ K, A.bin .add (.int .i64 (i : Nat)) (.int .i64 1) K = K (.int .i64 ((i + 1 : Nat) : Int)) := fun K => bin_inc (by omega) K
      rw [decide_eq_true (show ((i : Int) < (l.length : Int)) by omega), cond_true, iaddr_notes 0 hil, load_note, er1_note, rcheck_s _ n1 n2, ret_ret, eql_int, if_pos rfl]
      cases hok : packOK l[i] with
      | true =>
        simp only [if_true]
        rw [show ((0 : Int) != 0) = false from rfl, cond_false, e4]
        refine ih (i + 1) (by omega) (by omega) fun n hm => ?_
        rw [List.take_succ_eq_append_getElem hil, List.mem_append] at hm
        rcases hm with g | g
        · exact hodd n g
        · rw [List.mem_singleton.1 g]; simp [oddP, hok]
      | false =>
        simp only [Bool.false_eq_true, if_false]
        rw [show ((1 : Int) != 0) = true from rfl, cond_true, c4]
        have hany : l.any oddP = true := List.any_eq_true.2 ⟨l[i], List.getElem_mem hil, by simp [oddP, hok]⟩
        have e1 : jbegin room l = (1, []) := by unfold jbegin; rw [if_pos hany]
        unfold rbegin
        rw [e1]
        simp only [if_neg (show ¬ (1 : Nat) = 0 by decide)]
        exact rj_res hk hq oq 1
    · have : i = l.length := by omega
      subst this
      rw [List.take_length] at hodd
      rw [decide_eq_false (show ¬ ((l.length : Int) < (l.length : Int)) by omega), cond_false]
      have hany : l.any oddP = false := List.any_eq_false.2 fun n hm => by simp [hodd n hm]
      have e1 : jbegin room l = jputs room l [] := by unfold jbegin; rw [hany]; rfl
      unfold rbegin
      rw [e1]
      unfold g29b11
      have bl : ∀ K, A.build [.int .i64 0, .int .i64 0, .lst [] 1, .lst [] 1] [(0, 1, .int .i64 (room : Nat))] K = K (.agg (rjC room 0 [] 1 1)) := fun K => rfl
      rw [faddr_ptr, Nat.zero_add, c0, bl, rj_zero, rj_store (new_at st _)]
      have := rputs_loop (c := c) (q := q) (p := st.n) (sure := sure) (G := G) (st0 := st0) hr hl (fun n hm => ⟨(hn n hm).1, (hn n hm).2, by have := hodd n hm; simpa [oddP] using this⟩) hq hk.n (by omega) (by omega) big 0 ((st.new (.cells (rjC 0 0 [] 1 1))).put st.n (.cells (rjC room 0 [] 1 1))) 1 1 (by omega) (lt_big (by omega)) ((hk.new _).put hk.n _) (by simp; omega) (by simp; omega) (by simp) (by rw [put_ne _ _ (by omega), new_ne _ _ (by omega)]; exact oc) (by rw [put_ne _ _ (by omega), new_ne _ _ (by omega)]; exact oq) (put_at _ _ _) (by simp [packsB])
      exact this
theorem rbegin_s (room sure : Nat) (G l : List Note) (h1 : 1 ≤ room) (hr : room ≤ 67108864) (hl : l.length ≤ 9223372036854775807) (hn : ∀ n ∈ l, NoteOK n ∧ Upto n) (st : St) :
    s29 [rjV room sure G, .lst (notesV l) 0] st = some (.ret (.tup [rbegin room sure G l, .int .i64 ((jbegin room l).1 : Nat)]), st) := by
  rw [s29_eq]
  have key : ∃ (v : V) (st' : St), f29 (rjV room sure G) (.lst (notesV l) 0) st = some (.ret v, st') ∧ Ks st st' ∧ v.era = .tup [rbegin room sure G l, .int .i64 ((jbegin room l).1 : Nat)] := by
    unfold f29
    rw [rj_box, rj_zero]
    have k2 : Ks st ((st.new (.cells (rjC room sure G 0 0))).new (.cells (rjC 0 0 [] 1 1))) := ((Ks.refl st).new _).new _
    have o1 : ((st.new (.cells (rjC room sure G 0 0))).new (.cells (rjC 0 0 [] 1 1))).ob st.n = some (.cells (rjC room sure G 0 0)) := by rw [new_ne _ _ (by simp)]; exact new_at _ _
    have o2 := new_at (st.new (.cells (rjC room sure G 0 0))) (.cells (rjC 0 0 [] 1 1))
    exact rbegin_loop h1 hr hl hn (c := st.n) (q := (st.new (.cells (rjC room sure G 0 0))).n) (by simp) (by simp) k2 (by simp; omega) (by simp) o1 o2 big 0 (by omega) (lt_big (by omega)) (by simp)
  obtain ⟨v, st', q1, q2, q3⟩ := key
  have hp : (V.tup [rbegin room sure G l, .int .i64 ((jbegin room l).1 : Nat)]).pu = true := by
    have : (rbegin room sure G l).pu = true := by unfold rbegin; split <;> exact rj_pu _ _ _
    simp [this]
  rw [fg_of q1 q2 (by rw [q3]; exact hp), q3]
end Go.Ab
