import Derived.Test.YtjdgaphjjhhjeaaAbJ04e
import Derived.Test.YtjdgaphjjhhjeaaAbX04e
/- sinewlaw04.JournalSure, JournalAnew (where all is of so much bulk). -/
namespace Go.Ab
open Go.Proofs Go.RowKit Go.Oct
set_option linter.unusedVariables false
set_option linter.unusedSimpArgs false
set_option maxRecDepth 100000
theorem packsB_take (G : List Note) (j : Nat) : (packsB G).take (pl G j) = packsB (G.take j) := by
  have : packsB G = packsB (G.take j) ++ packsB (G.drop j) := by rw [← packsB_app, List.take_append_drop]
  unfold pl
  rw [this, List.take_left' rfl]
/-- The place where bytes are cut. -/
theorem pl_find (G : List Note) (k : Nat) : ∀ m, m ≤ G.length → ∃ j, j ≤ G.length ∧ pl G j ≤ k ∧ (j = G.length ∨ k < pl G (j + 1)) ∨ k < pl G m
  | m, hm => by
    by_cases h : pl G G.length ≤ k
    · exact ⟨G.length, .inl ⟨Nat.le_refl _, h, .inl rfl⟩⟩
    · -- downward
      have key : ∀ d m, m + d = G.length → k < pl G m ∨ ∃ j, j ≤ G.length ∧ pl G j ≤ k ∧ (j = G.length ∨ k < pl G (j + 1)) := by
        intro d
        induction d with
        | zero => intro m hm; left; have : m = G.length := by omega
                  subst this; omega
        | succ d ih =>
          intro m hm
          by_cases h2 : pl G m ≤ k
          · rcases ih (m + 1) (by omega) with g | g
            · exact .inr ⟨m, by omega, h2, .inr g⟩
            · exact .inr g
          · left; omega
      rcases key (G.length - m) m (by omega) with g | ⟨j, g⟩
      · exact ⟨0, .inr g⟩
      · exact ⟨j, .inl g⟩
theorem pl_cut (G : List Note) (k : Nat) : ∃ j, j ≤ G.length ∧ pl G j ≤ k ∧ (j = G.length ∨ k < pl G (j + 1)) := by
  obtain ⟨j, h | h⟩ := pl_find G k 0 (by omega)
  · exact ⟨j, h⟩
  · simp [pl, packsB] at h
/-- What a failure leaves. -/
theorem jfail_good {G : List Note} (hG : GoodL G) {m : Nat} (hm : m ≤ G.length) (keep : Int) : ∃ j, m ≤ j ∧ j ≤ G.length ∧ jfail (packsB G) (pl G m) keep = packsB (G.take j) := by
  have hle : pl G m ≤ (packsB G).length := by rw [← pl_all]; exact pl_mono G hm
  have hk := jkeep_le hle keep
  obtain ⟨j, h1, h2, h3⟩ := pl_cut G (jkeep (packsB G) (pl G m) keep)
  have hc := allN_cut hG hk h1 h2 h3
  refine ⟨j, ?_, h1, ?_⟩
  · apply Classical.byContradiction
    intro hlt
    have hge : pl G m ≤ jkeep (packsB G) (pl G m) keep := by unfold jkeep; omega
    rcases h3 with g | g
    · omega
    · have := pl_mono G (show j + 1 ≤ m by omega); omega
  · unfold jfail
    rw [hc]
    exact packsB_take G j
theorem GoodL.take {G : List Note} (h : GoodL G) (j : Nat) : GoodL (G.take j) := fun n hn => h n (List.mem_of_mem_take hn)
theorem JAt.app {st : St} {id room sure : Nat} {bv : V} {s : List UInt8} (h : JAt st id room bv s sure) (t sz : Nat) : JAt (appSt st t sz) id room bv s sure := by
  refine ⟨by rw [appSt_ob]; exact h.ob, by rw [appSt_n]; exact h.lt, ?_, h.le, h.r1, h.r2, h.full⟩
  rcases h.b with g | ⟨b, rest, h1, h2, h3, h4⟩
  · exact .inl g
  · exact .inr ⟨b, rest, h1, by rw [appSt_ob]; exact h2, h3, by rw [appSt_n]; exact h4⟩
/-- The rights of a list, in whatever state. -/
def OwnA (st : St) (sz t : Nat) : Prop := t = 1 ∨ t = 2 ∨ ∃ k, t = k + 3 ∧ st.tk k = some sz
theorem OwnA.tok {st : St} {sz t : Nat} (h : OwnA st sz t) : Tok st sz t := h
theorem OwnA.new (st : St) (t sz : Nat) : OwnA (appSt st t sz) sz (st.nt + 3) := .inr (.inr ⟨st.nt, rfl, appSt_new st t sz⟩)
theorem JFr.ownA {st st' : St} {id sz t : Nat} {bv bv' : V} (h : JFr st st' id bv bv') (ho : OwnA st sz t) : OwnA st' sz t := by
  rcases ho with g | g | ⟨k, g1, g4⟩
  · exact .inl g
  · exact .inr (.inl g)
  · exact .inr (.inr ⟨k, g1, by rw [h.tk]; exact g4⟩)
def nineN : Note := ⟨9, [], [], []⟩
theorem nine_ok : NoteOK nineN ∧ packOK nineN = true ∧ nineN.texts.length + lens nineN.rows ≤ 4096 ∧ (packB nineN).length ≤ 100 := by
  have hf : fitsW nineN = true := by simp [fitsW, nineN, greatF, manyF]
  have hb : (bodyB nineN).length ≤ 64 := by
    have a1 := putN_len9 9
    have a2 := putN_len9 0
    have a5 := listB_len2 (l := []) (by simp)
    simp only [List.length_nil] at a5
    simp only [bodyB, headB, nineN, numsB, rowsB, List.flatMap_nil, List.length_append, List.length_nil, List.append_nil, show (9 : Int).toNat = 9 from rfl]
    omega
  exact ⟨⟨by simp [nineN], by simp [nineN], by simp [nineN], by simp [nineN]⟩, by simp [packOK, hf]; omega, by simp [nineN, lens], by rw [packB_len]; omega⟩
structure LightL (G : List Note) : Prop where
  good : GoodL G
  len : ∀ n ∈ G, (packB n).length ≤ 77000
theorem light_packs : ∀ {G : List Note}, (∀ n ∈ G, (packB n).length ≤ 77000) → (packsB G).length ≤ G.length * 77000
  | [], _ => by simp [packsB]
  | n :: G, h => by
    have h1 := h n (by simp)
    have h2 := light_packs (G := G) fun x hx => h x (List.mem_cons_of_mem _ hx)
    simp only [packsB, List.flatMap_cons, List.length_append, List.length_cons] at h2 ⊢; omega
theorem sure_end (G : List Note) (hG : LightL G) (h40 : G.length ≤ 40) (m : Nat) (hm : m ≤ G.length) (keep : Int) (hk : keep ≤ 9223372036854775807) {st : St} {id : Nat} {bv : V} (t : Nat) (h : JAt st id 4194304 bv (packsB G) (pl G m)) :
    ∃ st', g3b111111 (.int .i64 keep) (.ptr id 0) (.int .i64 (G.length : Nat)) (.int .i64 (m : Nat)) (.lst (notesV G) t) st = some (.ret (.bool true), st') := by
  unfold g3b111111
  obtain ⟨st1, b1, q1, q2, q3⟩ := jfail_s h keep hk
  obtain ⟨j, j1, j2, j3⟩ := jfail_good hG.good hm keep
  rw [j3] at q2
  have hGt := hG.good.take j
  have hfull := allN_full hGt
  have hjl : (G.take j).length = j := by rw [List.length_take]; omega
  simp only [er1_ptr, er1_int, q1, ret_ret, eql_int, if_true, bne_self_eq_false, cond_false, jnotes_s q2, hfull, lenL_lst, notesV_len, hjl, bin_lss, show ¬ ((j : Int) < (m : Int)) from by omega, decide_false, guard_ff, bin_gtr, show ¬ ((G.length : Int) < (j : Int)) from by omega]
  unfold g3b1111111100_11
  have hsl : ∀ K, A.slice 4 (.lst (notesV G) t) none (some (.int .i64 (j : Nat))) none K = K (.lst (notesV (G.take j)) (if j = G.length then t else 0)) := fun K => by
    rw [slice_to (notesV G) t 4 j K (by simpa [notesV] using j2) (szok_notes _)]
    simp [notesV, List.map_take]
  have hsm : ∀ n ∈ G.take j, NoteSM n := fun n hn => by
    have := (all_s (packsB (G.take j)) (by have := q2.str; omega) st).2.1 n (by rw [hfull]; exact hn)
    exact this.sm
  obtain ⟨c, h3, h4⟩ := sameAll_s (G.take j) (G.take j) 0 (if j = G.length then t else 0) (by omega) hsm st1
  have hct : c = true := h4.2 rfl
  rw [hct] at h3
  simp only [guard_ff, lenL_lst, notesV_len, hjl, hsl, er1_lst, h3, ret_ret, un_not, Bool.not_true]
  unfold g3b1111111100_20
  have bu : ∀ K, A.build [.int .i64 0, .lst [] 1, .lst [] 1, .lst [] 1] [(0, 1, .int .i64 9)] K = K (.agg (nC 9 [] 1 [] 1 [] 1)) := fun K => rfl
  have her : (V.agg (nC 9 [] 1 [] 1 [] 1)).er1 = noteV nineN := rfl
  obtain ⟨n1, n2, n3, n4⟩ := nine_ok
  obtain ⟨st2, b2, w1, w2, w3⟩ := jwrite_s q2 nineN n1
  have hlp := light_packs (G := G.take j) (fun n hn => hG.len n (List.mem_of_mem_take hn))
  have hw : jwrite 4194304 (packsB (G.take j)) nineN = (0, packsB (G.take j ++ [nineN])) := by
    unfold jwrite
    rw [if_pos n2, if_neg (by omega), packsB_snoc]
  rw [hw] at w1 w2
  have hG2 := hGt.snoc n2 n3
  have hfull2 := allN_full hG2
  simp only [guard_ff, bu, er1_ptr, her, w1, ret_ret, eql_int, if_true, bne_self_eq_false, cond_false]
  unfold g3b111111111
  have ei : ∀ K, A.bin .add (.int .i64 (j : Nat)) (.int .i64 1) K = K (.int .i64 ((j + 1 : Nat) : Int)) := fun K => bin_inc (by omega) K
  have hgl : (G.take j ++ [nineN]).length = j + 1 := by simp; omega
  simp only [er1_ptr, jnotes_s w2, hfull2, ret_ret, lenL_lst, notesV_len, hgl, hjl, ei, eql_int, Bool.false_eq_true, if_false, beq_self_eq_true]
  unfold g3b11111111110_7
  have hlt : j < (G.take j ++ [nineN]).length := by omega
  have hat : (G.take j ++ [nineN])[j] = nineN := by
    rw [List.getElem_append_right (by omega)]
    simp [hjl]
  have ia : ∀ K, A.iaddr 4 (.lst (notesV (G.take j ++ [nineN])) 0) (.int .i64 (j : Nat)) K = K (.lptr (noteC nineN)) := fun K => by
    rw [iaddr_notes 0 hlt, hat]
  have lp : ∀ (st : St) K, A.faddr 0 (.lptr (noteC nineN)) (fun a3 => A.load false 1 a3 st K) = K (.int .i64 9) st := fun st K => rfl
  simp only [guard_tt, lenL_lst, notesV_len, hjl, ia, lp, eql_int, Bool.false_eq_true, if_false, beq_self_eq_true]
  unfold g3b11111111110_16
  simp only [guard_tt, s11_val, ret_ret, er1_bool]
  exact ⟨_, rfl⟩
theorem sure_loop (l : List Note) (hl : l.length ≤ 9223372036854775807) (hn : ∀ n ∈ l, NoteOK n ∧ Upto n) (bits keep : Int) (hk : keep ≤ 9223372036854775807) (id : Nat) :
    ∀ (f i : Nat) (G : List Note) (m t : Nat) (bv : V) (st : St), i ≤ 40 → 40 < f + i → LightL G → G.length ≤ i → m ≤ G.length → OwnA st 4 t → JAt st id 4194304 bv (packsB G) (pl G m) →
    ∃ st', g3b11111010 f (.lst (notesV l) 0) (.int .i64 bits) (.int .i64 keep) (.ptr id 0) (.int .i64 (G.length : Nat)) (.int .i64 (m : Nat)) (.lst (notesV G) t) (.int .i64 (i : Nat)) st = some (.ret (.bool true), st') := by
  intro f
  induction f with
  | zero => intro i G m t bv st hi hf; omega
  | succ f ih =>
    intro i G m t bv st hi hf hG hGi hm ho hj
    unfold g3b11111010
    simp only [lenL_lst, notesV_len, bin_lss]
    by_cases h : i < l.length
    · simp only [show ((i : Int) < (l.length : Int)) from by omega, decide_true, guard_tt]
      by_cases h40 : i < 40
      · simp only [show ((i : Int) < 40) from by omega, decide_true, cond_true]
        unfold g3b1111101001
        have e4 : ∀ K, A.bin .add (.int .i64 (i : Nat)) (.int .i64 1) K = K (.int .i64 ((i + 1 : Nat) : Int)) := fun K => bin_inc (by omega) K
        obtain ⟨n1, u1⟩ := hn _ (List.getElem_mem h)
        simp only [iaddr_notes 0 h, load_note, er1_note, lx_s _ n1 u1, ret_ret, un_not]
        by_cases hlight : lightN l[i] < 2048
        · obtain ⟨st2, b2, w1, w2, w3⟩ := jwrite_s hj l[i] n1
          simp only [hlight, decide_true, Bool.not_true, cond_false, iaddr_notes 0 h, load_note, er1_note, er1_ptr, w1, ret_ret]
          unfold g3b11111010010011
          have hlp := light_packs hG.len
          -- behind the write
          have tail : ∀ (G' : List Note) (t' : Nat) (b' : V) (st3 : St), LightL G' → G'.length ≤ i + 1 → m ≤ G'.length → OwnA st3 4 t' → JAt st3 id 4194304 b' (packsB G') (pl G' m) →
              ∃ st', g3b1111101001001111 (g3b11111010 f) (.lst (notesV l) 0) (.int .i64 bits) (.int .i64 keep) (.ptr id 0) (.int .i64 (G'.length : Nat)) (.int .i64 (m : Nat)) (.lst (notesV G') t') (.int .i64 (i : Nat)) st3 = some (.ret (.bool true), st') := by
            intro G' t' b' st3 hG' hl' hm' ho' hj'
            unfold g3b1111101001001111
            have hmod : i % 32 < 32 := Nat.mod_lt _ (by omega)
            have e31 : ∀ K, A.bin .and (.int .i64 (i : Nat)) (.int .i64 31) K = K (.int .i64 (((i % 32 : Nat)) : Int)) := fun K => by
              have : low 32 (i : Int) = i % 32 := by unfold low; omega
              rw [bin_and31, this]
            have es : ∀ K, A.bin .shr (.int .i64 bits) (.int .i64 (i % 32 : Nat)) K = K (.int .i64 (bits / (2 ^ (i % 32) : Nat))) := fun K => bin_shr K (by show i % 32 ≤ 64; omega)
            have e1 : ∀ (x : Int) K, A.bin .and (.int .i64 x) (.int .i64 1) K = K (.int .i64 (((x % (2 ^ 1 : Nat)).toNat : Nat) : Int)) := fun x K => bin_andN 1 1 rfl (by omega) K
            simp only [e31, es, e1, eql_int, Bool.false_eq_true, if_false]
            cases hb : ((((bits / (2 ^ (i % 32) : Nat) % (2 ^ 1 : Nat)).toNat : Nat) : Int) == 1) with
            | true =>
              obtain ⟨s1, s2⟩ := hj'.sure
              simp only [cond_true, er1_ptr, jsure_s hj', ret_ret, eql_int, if_true, bne_self_eq_false, cond_false, e4]
              exact ih (i + 1) G' G'.length t' b' _ (by omega) (by omega) hG' (by omega) (Nat.le_refl _) (s2.ownA ho') (by rw [pl_all]; exact s1)
            | false =>
              simp only [cond_false, e4]
              exact ih (i + 1) G' m t' b' _ (by omega) (by omega) hG' (by omega) hm' ho' hj'
          cases hp : packOK l[i] with
          | false =>
            have hw : jwrite 4194304 (packsB G) l[i] = (1, packsB G) := by unfold jwrite; rw [hp]; rfl
            rw [hw] at w2
            simp only [hw, eql_int, if_true, show (((1 : Nat) : Int) != 0) = true from rfl, guard_tt, bne_self_eq_false, show (((1 : Nat) : Int) != 1) = false from rfl, cond_false]
            unfold g3b111110100100111
            simp only [eql_int, Bool.false_eq_true, if_false, show (((1 : Nat) : Int) == 0) = false from rfl, cond_false]
            exact tail G t b2 st2 hG (by omega) hm (w3.ownA ho) w2
          | true =>
            have hfit := fit_of u1 (by simp only [packOK, Bool.and_eq_true] at hp; exact hp.1)
            have h7 := light_pack hfit hlight
            have hw : jwrite 4194304 (packsB G) l[i] = (0, packsB (G ++ [l[i]])) := by
              unfold jwrite
              rw [if_pos hp, if_neg (by omega), packsB_snoc]
            rw [hw] at w2
            have hG2 : LightL (G ++ [l[i]]) := ⟨hG.good.snoc hp hfit.all, fun n hn => by
              rcases List.mem_append.1 hn with g | g
              · exact hG.len n g
              · rw [List.mem_singleton.1 g]; exact h7⟩
            simp only [hw, eql_int, if_true, show (((0 : Nat) : Int) != 0) = false from rfl, guard_ft]
            unfold g3b111110100100111
            have eb : ∀ K, A.bslice 4 (.agg [.int .i64 0, .lst [] 1, .lst [] 1, .lst [] 1]) 1 [(0, noteV l[i])] K = K (.lst (notesV [l[i]]) 2) := fun K => bslice_note _ K
            have el : ∀ st, elemsOf 5 4 (.lst (notesV [l[i]]) 2) st = some (notesV [l[i]]) := fun st => elemsOf_lst _ _ _ _ (szok_notes _)
            have ei : ∀ K, A.bin .add (.int .i64 (G.length : Nat)) (.int .i64 1) K = K (.int .i64 ((G.length + 1 : Nat) : Int)) := fun K => bin_inc (by omega) K
            simp only [eql_int, Bool.false_eq_true, if_false, show (((0 : Nat) : Int) == 0) = true from rfl, cond_true, iaddr_notes 0 h, load_note, eb, el]
            rw [app_tok _ (w3.ownA ho).tok (by simp [notesV]; omega) (szok_notes _), ← notesV_app]
            simp only [ei]
            have hgl : (G ++ [l[i]]).length = G.length + 1 := by simp
            have hpl : pl (G ++ [l[i]]) m = pl G m := by unfold pl; rw [List.take_append_of_le_length hm]
            have := tail (G ++ [l[i]]) (st2.nt + 3) b2 (appSt st2 t 4) hG2 (by omega) (by omega) (OwnA.new _ _ _) (by rw [hpl]; exact w2.app t 4)
            rwa [hgl] at this
        · simp only [hlight, decide_false, Bool.not_false, cond_true, s11_val, ret_ret, er1_bool]; exact ⟨_, rfl⟩
      · simp only [show ¬ ((i : Int) < 40) from by omega, decide_false, cond_false]
        exact sure_end G hG (by omega) m hm keep hk t hj
    · simp only [show ¬ ((i : Int) < (l.length : Int)) from by omega, decide_false, guard_ft]
      exact sure_end G hG (by omega) m hm keep hk t hj
theorem journalSure_law (l : List Note) (hl : l.length ≤ 9223372036854775807) (hn : ∀ n ∈ l, NoteOK n ∧ Upto n) (bits keep : Int) (hk : keep ≤ 9223372036854775807) (st : St) : ∃ st', s3 [.lst (notesV l) 0, .int .i64 bits, .int .i64 keep] st = some (.ret (.bool true), st') := by
  rw [s3_eq]
  unfold f3
  rw [show (V.int .i64 4194304).er1 = .int .i64 ((4194304 : Nat) : Int) from rfl]
  simp only [new_s 4194304 (by omega) (by omega), ret_ret, ext_0, ext_1, eql_int, if_true, bne_self_eq_false, guard_ff, eql_ptr, cond_false]
  unfold g3b111
  have := sure_loop l hl hn bits keep hk st.n big 0 [] 0 1 _ _ (by omega) (by have := big_le; omega) ⟨(by intro n hn; cases hn), (by intro n hn; cases hn)⟩ (by simp) (by simp) (.inl rfl) (new_at_j 4194304 (by omega) (by omega) st)
  exact this
theorem journalSure_row {W : World} {v0 v1 v2 : Value} {x0 x1 x2 : V} {n0 n1 n2 : Nat}
    (r0 : Rs (E0 W) [x0] [v0]) (s0 : Sh Try.prog n0 22 x0.cells) (f0 : fit Try.prog 22 x0)
    (r1 : Rs (E0 W) [x1] [v1]) (s1 : Sh Try.prog n1 3 x1.cells) (f1 : fit Try.prog 3 x1)
    (r2 : Rs (E0 W) [x2] [v2]) (s2 : Sh Try.prog n2 3 x2.cells) (f2 : fit Try.prog 3 x2) (hb : x0.bulk + x1.bulk + x2.bulk ≤ 1048576) :
    Calls Try.prog 3 #[v0, v1, v2] W fun e w' => e = .returned (.bool true) ∧ Below W.heap.size W w' := by
  obtain ⟨l, rfl, h1, h2⟩ := in_notes s0 f0
  obtain ⟨a, rfl, ha⟩ := in_int s1 f1 Try.underlying3
  obtain ⟨b, rfl, hb'⟩ := in_int s2 f2 Try.underlying3
  have hu := notes_upto (l := l) (t := 0) (by omega)
  obtain ⟨st', hs⟩ := journalSure_law l h1 (fun n hn => ⟨h2 n hn, hu n hn⟩) a b (wf_i64 hb').2 St0
  exact bool_row sim3 W _ _ _ hs (Rs.cons r0 (Rs.cons r1 r2))
end Go.Ab
