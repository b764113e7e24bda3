import Derived.Test.YtimidokohhiacaaAbA09c
/- sinew/query: the parser's functions: queries, changes. -/
namespace Go.Ab
open Go.Proofs Go.RowKit
set_option linter.unusedVariables false
set_option linter.unusedSimpArgs false
set_option maxRecDepth 100000
/-! what is left is an end of what there was -/
def PR.suf {α : Type} (r : PR α) (l0 : List Sg) : Prop := match r with | .ok _ l => l <:+ l0 | .bad l => l <:+ l0
theorem PR.suf.bind {α β : Type} {r : PR α} {l0 : List Sg} (h : r.suf l0) {f : α → List Sg → PR β} (k : ∀ a l, (f a l).suf l) : (r.bind f).suf l0 := by
  cases r with
  | ok a l =>
    have h1 : l <:+ l0 := h
    have h2 := k a l
    show (f a l).suf l0
    cases hf : f a l with
    | ok b l2 => rw [hf] at h2; exact List.IsSuffix.trans h2 h1
    | bad l2 => rw [hf] at h2; exact List.IsSuffix.trans h2 h1
  | bad l => exact h
theorem suf_of {α : Type} {r : PR α} {l l0 : List Sg} (h : r.suf l) (k : l <:+ l0) : r.suf l0 := by
  cases r <;> exact List.IsSuffix.trans h k
theorem pTake_suf (k : Int) (ts : List (List UInt8)) (l : List Sg) : (pTake k ts l).suf l := by
  cases l with
  | nil => exact List.suffix_refl _
  | cons x l =>
    rw [pTake]; split
    · exact List.suffix_cons _ _
    · exact List.suffix_refl _
theorem pIs_suf {m : List UInt8} {l l' : List Sg} (h : pIs m l = some l') : l' <:+ l := by
  cases l with
  | nil => cases h
  | cons x l =>
    rw [pIs] at h; split at h
    · cases h; exact List.suffix_cons _ _
    · cases h
theorem pTerm_suf (l : List Sg) : (pTerm l).suf l := by
  unfold pTerm; split
  · exact (pTake_suf 2 [] l).bind fun a l => List.suffix_refl _
  · exact (pTake_suf 1 [] l).bind fun a l => List.suffix_refl _
theorem pPrim_suf {P : List Sg → PR Pth} (hP : ∀ l, (P l).suf l) (l : List Sg) : (pPrim P l).suf l := by
  unfold pPrim; split
  · rename_i l' hl
    refine suf_of ((hP l').bind fun p l1 => ?_) (pIs_suf hl)
    exact (pTake_suf 3 _ l1).bind fun a l2 => List.suffix_refl _
  · exact (pTake_suf 1 [] l).bind fun a l => List.suffix_refl _
theorem pStars_suf : ∀ (l : List Sg) (p : Pth), (pStars p l).2 <:+ l
  | [], p => List.suffix_refl _
  | x :: l, p => by
    rw [pStars]
    split
    · exact List.IsSuffix.trans (pStars_suf l _) (List.suffix_cons _ _)
    · split
      · exact List.IsSuffix.trans (pStars_suf l _) (List.suffix_cons _ _)
      · split
        · exact List.IsSuffix.trans (pStars_suf l _) (List.suffix_cons _ _)
        · exact List.suffix_refl _
theorem pPost_suf {P : List Sg → PR Pth} (hP : ∀ l, (P l).suf l) (l : List Sg) : (pPost P l).suf l := by
  unfold pPost
  exact (pPrim_suf hP l).bind fun p l1 => pStars_suf l1 p
theorem pMore_suf {m : List UInt8} {P : List Sg → PR Pth} (hP : ∀ l, (P l).suf l) : ∀ (n : Nat) (ps : List Pth) (l : List Sg), (pMore m P n ps l).suf l
  | 0, _, l => List.suffix_refl _
  | n + 1, ps, l => by
    rw [pMore]; split
    · exact List.suffix_refl _
    · rename_i l' hl
      exact suf_of ((hP l').bind fun p l1 => pMore_suf hP n (ps ++ [p]) l1) (pIs_suf hl)
theorem pSome_suf {k : Int} {m : List UInt8} {P : List Sg → PR Pth} (hP : ∀ l, (P l).suf l) (n : Nat) (l : List Sg) : (pSome k m P n l).suf l := by
  unfold pSome
  exact (hP l).bind fun p l1 => (pMore_suf hP n [p] l1).bind fun ps l2 => List.suffix_refl _
theorem pPath_suf : ∀ (n : Nat) (l : List Sg), (pPath n l).suf l
  | 0, l => List.suffix_refl _
  | n + 1, l => by
    rw [pPath]
    exact pSome_suf (fun l => pSome_suf (fun l => pPost_suf (pPath_suf n) l) n l) n l
theorem pAtom_suf (N : Nat) (l : List Sg) : (pAtom N l).suf l := by
  unfold pAtom
  exact (pTerm_suf l).bind fun s l => (pPath_suf N l).bind fun p l => (pTerm_suf l).bind fun o l => List.suffix_refl _
/-- A mark's text stands in marks alone. -/
def MkOK (l : List Sg) : Prop := ∀ x ∈ l, x.tx = [125] → x.k = 3
theorem MkOK.suf {l l' : List Sg} (h : MkOK l) (k : l' <:+ l) : MkOK l' := fun x hx => h x (k.subset hx)
theorem MkOK.ok {α : Type} {l l' : List Sg} {r : PR α} {a : α} (h : MkOK l) (k : r.suf l) (e : r = .ok a l') : MkOK l' := by subst e; exact h.suf k
/-! the walk -/
theorem path82 {p : Nat} {e : Int} (N : Nat) (hN : N ≤ 100000) {l : List Sg} {st : St} {t : Nat} (hl : l.length < N) (h : st.ob p = some (pc l t e)) (hp : p < st.n) : Par p e Pth.v st (pPath N l) (s82 [.ptr p 0] st) := by
  rw [s82_n]
  obtain ⟨M, hM, hM2⟩ := big_succ
  rw [hM]
  exact path_s N M hN (by omega) l st t hl h hp
def qC (vs : List (List UInt8)) (u : Nat) (ats : List AtP) (u2 : Nat) : List V := [.lst (strsV vs) u, .lst (ats.map atpV) u2]
def qV (q : List (List UInt8) × List AtP) : V := .agg [.lst (strsV q.1) 0, .lst (q.2.map atpV) 0]
theorem ret_kid (x : Res) : A.ret x kid = x := by
  match x with
  | none => rfl
  | some (.ret v, st) => rfl
  | some (.panic v, st) => rfl
/-- One more variable. -/
theorem var_step {β : Type} {p i : Nat} {e : Int} {emb : β → V} {st0 s : St} {l : List Sg} {t u u2 : Nat} {vs : List (List UInt8)} {ats : List AtP} {F : List UInt8 → List Sg → PR β} {K : V → St → Res} (k : KsP p st0 s) (h : s.ob p = some (pc l t e)) (o : s.ob i = some (.cells (qC vs u ats u2))) (hu : Own st0 s 1 u) (hi : st0.n ≤ i) (hip : p ≠ i) (hin : i < s.n) (hp : p < s.n) (hvs : vs.length ≤ 100000)
    (next : ∀ w l' s' t' u', pTake 2 [] l = .ok w l' → KsP p st0 s' → s'.ob p = some (pc l' t' e) → s'.ob i = some (.cells (qC (vs ++ [w]) u' ats u2)) → Own st0 s' 1 u' → i < s'.n → p < s'.n → Par p e emb st0 (F w l') (K (.tup []) s')) :
    Par p e emb st0 ((pTake 2 [] l).bind F) (A.faddr 0 (.ptr i 0) fun a6 => A.load false 1 a6 s fun a7 _ => A.ret (A.ret (s80 [.ptr p 0, .int .i64 2, .lst [] 1] s) kid) fun a8 z9 => A.chk (ldv false 1 a6 z9) a7 (A.bslice 1 (.str []) 1 [(0, a8)] fun a10 => A.ret (A.app 1 a7 (elemsOf 5 1 a10 z9) z9 kid) fun a11 z12 => A.faddr 0 (.ptr i 0) fun a13 => A.ret (A.store 1 a13 a11 z12 fun s => kid (.tup []) s) K)) := by
  have w0 : ∀ K : V → St → Res, A.load false 1 (.ptr i 0) s K = K (.lst (strsV vs) u) s := fun K => by simp [o, qC]
  rw [faddr_ptr, Nat.zero_add, w0, ret_kid]
  refine Par.bind' (take_s h hp 2 (by decide) [] 1 (by simp)) k fun w l' s1 t1 hr k1 h1 => ?_
  have n1 := k1.n
  have o1 := (k1.ob i hin (fun g => hip g.symm)).trans o
  have w1 : ldv false 1 (.ptr i 0) s1 = some (.lst (strsV vs) u) := by unfold ldv; rw [load_ob, o1]; rfl
  have bs : ∀ K, A.bslice 1 (.str []) 1 [(0, .str w)] K = K (.lst (strsV [w]) 2) := fun K => rfl
  rw [w1, chk_same, bs, elemsOf_strs]
  have hu1 := hu.monoP k1
  obtain ⟨k2, hu2⟩ := (k.trans k1).app hu1
  rw [app_own _ hu1 (by simp; omega) (szok_strs _), kid_eq, ret_ret, faddr_ptr, Nat.zero_add, ← strsV_app]
  have o2 : (appSt s1 u 1).ob i = some (.cells (qC vs u ats u2)) := by rw [appSt_ob]; exact o1
  have so : A.store 1 (.ptr i 0) (.lst (strsV (vs ++ [w])) (s1.nt + 3)) (appSt s1 u 1) (fun s => kid (.tup []) s) = some (.ret (.tup []), (appSt s1 u 1).put i (.cells (qC (vs ++ [w]) (s1.nt + 3) ats u2))) := by
    rw [store_ob _ _ _ _ _ rfl, o2]; rfl
  rw [so, ret_ret]
  refine next w l' _ t1 (s1.nt + 3) hr (k2.put hi _) (by rw [put_ne _ _ hip, appSt_ob]; exact h1) (put_at _ _ _) ?_ (by rw [put_n, appSt_n]; omega) (by rw [put_n, appSt_n]; omega)
  rcases hu2 with g | g | ⟨j, g1, g2, g3, g4⟩
  · exact .inl g
  · exact .inr (.inl g)
  · exact .inr (.inr ⟨j, g1, g2, by simpa using g3, by simpa using g4⟩)
/-- The end of a query. -/
theorem query_end {p i : Nat} {e : Int} {st0 s : St} {l : List Sg} {t u u2 : Nat} {vs : List (List UInt8)} {ats : List AtP} (f : Nat) (k : KsP p st0 s) (h : s.ob p = some (pc l t e)) (o : s.ob i = some (.cells (qC vs u ats u2))) (hi : st0.n ≤ i) (hip : p ≠ i) (hin : i < s.n) (hp : p < s.n) :
    Par p e qV st0 ((pTake 3 [[125]] l).bind fun _ l => .ok (vs, ats) l) (g51bzsa (f + 1) (.ptr p 0) (.ptr i 0) (.bool false) s) := by
  rw [g51bzsa]
  have bs : ∀ K, A.bslice 1 (.str []) 1 [(0, (.str [125]))] K = K (.lst (strsV [[125]]) 2) := fun K => rfl
  rw [cond_false, bs]
  simp only [er1_ptr, er1_int, er1_lst]
  refine Par.bind' (take_s h hp 3 (by decide) [[125]] 2 (by simp)) k fun w l1 s1 t1 _ k1 h1 => ?_
  have o1 := (k1.ob i hin (fun g => hip g.symm)).trans o
  have ld : ∀ K : V → St → Res, A.load true 2 (.ptr i 0) s1 K = K (.agg (qC vs u ats u2)) s1 := fun K => by rw [load_obA, o1]; rfl
  rw [ld, sv_all 2 _ o1 rfl rfl rfl, res_cells 2 (put_at _ _ _) rfl rfl]
  exact Par.ret rfl ((k.trans k1).put hi _) (by rw [put_ne _ _ hip]; exact h1)
theorem bx_at (st : St) (K : V → St → Res) : A.box (.agg [(.bool false), (.str []), (.int .i64 0), (.str []), (.lst [] 1), (.bool false), (.str [])]) st K = K (.ptr st.n 0) (st.new (.cells [(.bool false), (.str []), (.int .i64 0), (.str []), (.lst [] 1), (.bool false), (.str [])])) := rfl
theorem bind_assoc {α β γ : Type} (r : PR α) (f : α → List Sg → PR β) (g : β → List Sg → PR γ) : (r.bind f).bind g = r.bind fun a l => (f a l).bind g := by cases r <;> rfl
theorem atps_ok (ats : List AtP) : szok 7 (ats.map atpV) = true := szok_of (by intro v hv; obtain ⟨x, _, rfl⟩ := List.mem_map.1 hv; rfl)
theorem atoms_loop {p i : Nat} {e : Int} (N : Nat) (hN : N ≤ 100000) {st0 : St} {vs : List (List UInt8)} {u : Nat} (hi : st0.n ≤ i) (hip : p ≠ i) (hp0 : p < st0.n) :
    ∀ (n f : Nat) (ats : List AtP) (l : List Sg) (s : St) (t u2 : Nat), l.length < n → n < f → l.length < N → MkOK l → ats.length + l.length ≤ 1000000 → KsP p st0 s → Own st0 s 7 u2 → s.ob p = some (pc l t e) → s.ob i = some (.cells (qC vs u ats u2)) → i < s.n →
      Par p e qV st0 ((pAtoms N n ats l).bind fun ats l => (pTake 3 [[125]] l).bind fun _ l => .ok (vs, ats) l) (g51bzsa f (.ptr p 0) (.ptr i 0) (.bool true) s) := by
  intro n
  induction n with
  | zero => intro f ats l s t u2 hl; omega
  | succ n ih =>
    intro f ats l s t u2 hl hf hlN hmk hlen k hu h o hin
    obtain ⟨f, rfl⟩ : ∃ f', f = f' + 1 := ⟨f - 1, by omega⟩
    have hps : p < s.n := by have := k.n; omega
    rw [g51bzsa, pAtoms, cond_true]
    simp only [er1_ptr]
    unfold pAtom
    rw [bind_assoc, bind_assoc]
    refine Par.bind' (term_s h hps) k fun tm l1 s1 t1 hr1 k1 h1 => ?_
    have n1 := k1.n
    have hl1 := pTerm_lt hr1
    have mk1 := hmk.ok (pTerm_suf l) hr1
    have o1 := (k1.ob i hin (fun g => hip g.symm)).trans o
    have b : ∀ K, A.build [(.bool false), (.str []), (.int .i64 0), (.str []), (.lst [] 1), (.bool false), (.str [])] [(0, 2, tmV tm)] K = K (.agg [.bool tm.v, .str tm.n, (.int .i64 0), (.str []), (.lst [] 1), (.bool false), (.str [])]) := fun K => rfl
    rw [b, bx_at, sv_all 7 _ (new_at _ _) rfl rfl rfl]
    have k2 : KsP p st0 ((s1.new (.cells [(.bool false), (.str []), (.int .i64 0), (.str []), (.lst [] 1), (.bool false), (.str [])])).put s1.n (.cells [.bool tm.v, .str tm.n, (.int .i64 0), (.str []), (.lst [] 1), (.bool false), (.str [])])) := ((k.trans k1).new _).put (by have := k.n; omega) _
    have k12 : KsP p s1 ((s1.new (.cells [(.bool false), (.str []), (.int .i64 0), (.str []), (.lst [] 1), (.bool false), (.str [])])).put s1.n (.cells [.bool tm.v, .str tm.n, (.int .i64 0), (.str []), (.lst [] 1), (.bool false), (.str [])])) := ((KsP.refl p s1).new _).put (Nat.le_refl _) _
    have a2 := put_at (s1.new (.cells [(.bool false), (.str []), (.int .i64 0), (.str []), (.lst [] 1), (.bool false), (.str [])])) s1.n (.cells [.bool tm.v, .str tm.n, (.int .i64 0), (.str []), (.lst [] 1), (.bool false), (.str [])])
    have h2 : ((s1.new (.cells [(.bool false), (.str []), (.int .i64 0), (.str []), (.lst [] 1), (.bool false), (.str [])])).put s1.n (.cells [.bool tm.v, .str tm.n, (.int .i64 0), (.str []), (.lst [] 1), (.bool false), (.str [])])).ob p = some (pc l1 t1 e) := by rw [put_ne _ _ (by omega), new_ne _ _ (by omega)]; exact h1
    have n2 : s1.n < ((s1.new (.cells [(.bool false), (.str []), (.int .i64 0), (.str []), (.lst [] 1), (.bool false), (.str [])])).put s1.n (.cells [.bool tm.v, .str tm.n, (.int .i64 0), (.str []), (.lst [] 1), (.bool false), (.str [])])).n := by simp
    generalize (s1.new (.cells [(.bool false), (.str []), (.int .i64 0), (.str []), (.lst [] 1), (.bool false), (.str [])])).put s1.n (.cells [.bool tm.v, .str tm.n, (.int .i64 0), (.str []), (.lst [] 1), (.bool false), (.str [])]) = s2 at k2 k12 a2 h2 n2 ⊢
    have o2 := (k12.ob i (by omega) (fun g => hip g.symm)).trans o1
    have hu2 := (hu.monoP k1).monoP k12
    rw [bind_assoc]
    refine Par.bind' (path82 N hN (by omega) h2 (by omega)) k2 fun q l3 s3 t3 hr3 k3 h3 => ?_
    have n3 := k3.n
    have hl3 := pPath_lt hr3
    have mk3 := mk1.ok (pPath_suf N l1) hr3
    have a3 := (k3.ob s1.n n2 (by omega)).trans a2
    have o3 := (k3.ob i (by omega) (fun g => hip g.symm)).trans o2
    have sq : ∀ K : St → Res, A.store 3 (.ptr s1.n 2) q.v s3 K = K (s3.put s1.n (.cells [.bool tm.v, .str tm.n, .int .i64 q.kind, .str q.word, .lst (q.kids.map Pth.v) 0, (.bool false), (.str [])])) := fun K => by
      rw [pth_c, store_agg, a3, obo_some, if_pos ⟨rfl, by simp, rfl⟩]; rfl
    rw [faddr_ptr, Nat.zero_add, sq]
    have k4 : KsP p st0 (s3.put s1.n (.cells [.bool tm.v, .str tm.n, .int .i64 q.kind, .str q.word, .lst (q.kids.map Pth.v) 0, (.bool false), (.str [])])) := (k2.trans k3).put (by have := k.n; omega) _
    have a4 := put_at s3 s1.n (.cells [.bool tm.v, .str tm.n, .int .i64 q.kind, .str q.word, .lst (q.kids.map Pth.v) 0, (.bool false), (.str [])])
    have h4 : (s3.put s1.n (.cells [.bool tm.v, .str tm.n, .int .i64 q.kind, .str q.word, .lst (q.kids.map Pth.v) 0, (.bool false), (.str [])])).ob p = some (pc l3 t3 e) := by rw [put_ne _ _ (by omega)]; exact h3
    have o4 : (s3.put s1.n (.cells [.bool tm.v, .str tm.n, .int .i64 q.kind, .str q.word, .lst (q.kids.map Pth.v) 0, (.bool false), (.str [])])).ob i = some (.cells (qC vs u ats u2)) := by rw [put_ne _ _ (by omega)]; exact o3
    have hu4 : Own st0 (s3.put s1.n (.cells [.bool tm.v, .str tm.n, .int .i64 q.kind, .str q.word, .lst (q.kids.map Pth.v) 0, (.bool false), (.str [])])) 7 u2 := by
      rcases hu2.monoP k3 with g | g | ⟨j, g1, g2, g3, g4⟩
      · exact .inl g
      · exact .inr (.inl g)
      · exact .inr (.inr ⟨j, g1, g2, by simpa using g3, by simpa using g4⟩)
    have n4 : (s3.put s1.n (.cells [.bool tm.v, .str tm.n, .int .i64 q.kind, .str q.word, .lst (q.kids.map Pth.v) 0, (.bool false), (.str [])])).n = s3.n := put_n _ _ _
    generalize s3.put s1.n (.cells [.bool tm.v, .str tm.n, .int .i64 q.kind, .str q.word, .lst (q.kids.map Pth.v) 0, (.bool false), (.str [])]) = s4 at k4 a4 h4 o4 hu4 n4 ⊢
    rw [bind_assoc]
    refine Par.bind' (term_s h4 (by omega)) k4 fun tm2 l5 s5 t5 hr5 k5 h5 => ?_
    have n5 := k5.n
    have hl5 := pTerm_lt hr5
    have mk5 := mk3.ok (pTerm_suf l3) hr5
    have a5 := (k5.ob s1.n (by omega) (by omega)).trans a4
    have o5 := (k5.ob i (by omega) (fun g => hip g.symm)).trans o4
    have hu5 := hu4.monoP k5
    have st5 : ∀ K : St → Res, A.store 2 (.ptr s1.n 5) (tmV tm2) s5 K = K (s5.put s1.n (.cells (atpC ⟨tm, q, tm2⟩))) := fun K => by
      unfold tmV; rw [store_agg, a5, obo_some, if_pos ⟨rfl, by simp, rfl⟩]; rfl
    rw [faddr_ptr, Nat.zero_add, st5]
    have k6 : KsP p st0 (s5.put s1.n (.cells (atpC ⟨tm, q, tm2⟩))) := (k4.trans k5).put (by have := k.n; omega) _
    have a6 := put_at s5 s1.n (.cells (atpC ⟨tm, q, tm2⟩))
    have h6 : (s5.put s1.n (.cells (atpC ⟨tm, q, tm2⟩))).ob p = some (pc l5 t5 e) := by rw [put_ne _ _ (by omega)]; exact h5
    have o6 : (s5.put s1.n (.cells (atpC ⟨tm, q, tm2⟩))).ob i = some (.cells (qC vs u ats u2)) := by rw [put_ne _ _ (by omega)]; exact o5
    have hu6 : Own st0 (s5.put s1.n (.cells (atpC ⟨tm, q, tm2⟩))) 7 u2 := by
      rcases hu5 with g | g | ⟨j, g1, g2, g3, g4⟩
      · exact .inl g
      · exact .inr (.inl g)
      · exact .inr (.inr ⟨j, g1, g2, by simpa using g3, by simpa using g4⟩)
    have n6 : (s5.put s1.n (.cells (atpC ⟨tm, q, tm2⟩))).n = s5.n := put_n _ _ _
    generalize s5.put s1.n (.cells (atpC ⟨tm, q, tm2⟩)) = s6 at k6 a6 h6 o6 hu6 n6 ⊢
    unfold g51bz1eaf
    have lq : ∀ K : V → St → Res, A.load false 1 (.ptr i 1) s6 K = K (.lst (ats.map atpV) u2) s6 := fun K => by simp [o6, qC]
    have la : ∀ K : V → St → Res, A.load true 7 (.ptr s1.n 0) s6 K = K (atpV ⟨tm, q, tm2⟩) s6 := fun K => by rw [load_obA, a6]; rfl
    have bs : ∀ K, A.bslice 7 (.agg [(.bool false), (.str []), (.int .i64 0), (.str []), (.lst [] 1), (.bool false), (.str [])]) 1 [(0, atpV ⟨tm, q, tm2⟩)] K = K (.lst [atpV ⟨tm, q, tm2⟩] 2) := fun K => rfl
    simp only [faddr_ptr, Nat.zero_add, er1_ptr, er1_str]
    rw [lq, la, bs, show elemsOf 5 7 (.lst [atpV ⟨tm, q, tm2⟩] 2) s6 = some [atpV ⟨tm, q, tm2⟩] from elemsOf_lst 7 _ 2 s6 (atps_ok [_])]
    rw [app_own _ hu6 (by simp; omega) (atps_ok ats)]
    obtain ⟨k7, hu7⟩ := k6.app hu6
    have sa : ∀ K : St → Res, A.store 1 (.ptr i 1) (.lst (ats.map atpV ++ [atpV ⟨tm, q, tm2⟩]) (s6.nt + 3)) (appSt s6 u2 7) K = K ((appSt s6 u2 7).put i (.cells (qC vs u (ats ++ [⟨tm, q, tm2⟩]) (s6.nt + 3)))) := fun K => by
      rw [store_ob _ _ _ _ _ rfl, appSt_ob, o6]
      simp [qC]
    rw [sa]
    have k8 : KsP p st0 ((appSt s6 u2 7).put i (.cells (qC vs u (ats ++ [⟨tm, q, tm2⟩]) (s6.nt + 3)))) := k7.put hi _
    have h8 : ((appSt s6 u2 7).put i (.cells (qC vs u (ats ++ [⟨tm, q, tm2⟩]) (s6.nt + 3)))).ob p = some (pc l5 t5 e) := by rw [put_ne _ _ hip, appSt_ob]; exact h6
    have o8 := put_at (appSt s6 u2 7) i (.cells (qC vs u (ats ++ [⟨tm, q, tm2⟩]) (s6.nt + 3)))
    have hu8 : Own st0 ((appSt s6 u2 7).put i (.cells (qC vs u (ats ++ [⟨tm, q, tm2⟩]) (s6.nt + 3)))) 7 (s6.nt + 3) := by
      rcases hu7 with g | g | ⟨j, g1, g2, g3, g4⟩
      · exact .inl g
      · exact .inr (.inl g)
      · exact .inr (.inr ⟨j, g1, g2, by simpa using g3, by simpa using g4⟩)
    have n8 : ((appSt s6 u2 7).put i (.cells (qC vs u (ats ++ [⟨tm, q, tm2⟩]) (s6.nt + 3)))).n = s6.n := by rw [put_n, appSt_n]
    generalize (appSt s6 u2 7).put i (.cells (qC vs u (ats ++ [⟨tm, q, tm2⟩]) (s6.nt + 3))) = s8 at k8 h8 o8 hu8 n8 ⊢
    obtain ⟨f, rfl⟩ : ∃ f', f = f' + 1 := ⟨f - 1, by omega⟩
    have hq := is_s h8 (by omega) [46]
    show Par p e qV st0 (PR.bind (match pIs [46] l5 with | none => .ok (ats ++ [⟨tm, q, tm2⟩]) l5 | some l' => match pIs [125] l' with | some _ => .ok (ats ++ [⟨tm, q, tm2⟩]) l' | none => pAtoms N n (ats ++ [⟨tm, q, tm2⟩]) l') _) _
    cases hm : pIs [46] l5 with
    | none =>
      rw [hm] at hq
      obtain ⟨s9, q9, k9⟩ := hq
      rw [q9, ret_ret, guard_ft]
      exact query_end f (k8.trans (k9.toP p)) ((k9.ob p (by omega)).trans h8) ((k9.ob i (by omega)).trans o8) hi hip (by have := k9.n; omega) (by have := k9.n; omega)
    | some l6 =>
      rw [hm] at hq
      obtain ⟨s9, t9, q9, k9, h9⟩ := hq
      have n9 := k9.n
      have mk6 := mk5.suf (pIs_suf hm)
      have hl6 := pIs_lt hm
      rw [q9, ret_ret, guard_tt]
      obtain ⟨s10, q10, k10⟩ := now_s h9 (by omega)
      have n10 := k10.n
      have h10 := (k10.ob p (by omega)).trans h9
      have o9 := (k9.ob i (by omega) (fun g => hip g.symm)).trans o8
      have o10 := (k10.ob i (by omega)).trans o9
      have kk := (k8.trans k9).trans (k10.toP p)
      rw [q10, ret_ret, sgV_t, eql_str, if_pos rfl]
      have hu10 := (hu8.monoP k9).mono k10
      show Par p e qV st0 (PR.bind (match pIs [125] l6 with | some _ => .ok (ats ++ [⟨tm, q, tm2⟩]) l6 | none => pAtoms N n (ats ++ [⟨tm, q, tm2⟩]) l6) _) _
      cases hm2 : pIs [125] l6 with
      | some l7 =>
        have : ((nowS l6 e).tx != [125]) = false := by
          cases l6 with
          | nil => cases hm2
          | cons y l6 =>
            rw [pIs] at hm2
            split at hm2
            · rename_i hc; show (y.tx != [125]) = false; rw [hc.2]; rfl
            · cases hm2
        rw [this]
        exact query_end f kk h10 o10 hi hip (by omega) (by omega)
      | none =>
        have : ((nowS l6 e).tx != [125]) = true := by
          cases l6 with
          | nil => rfl
          | cons y l6 =>
            rw [pIs] at hm2
            split at hm2
            · cases hm2
            · rename_i hc
              show (y.tx != [125]) = true
              rw [bne_iff_ne]
              intro g
              exact hc ⟨mk6 y (by simp) g, g⟩
        rw [this]
        exact ih (f + 1) (ats ++ [⟨tm, q, tm2⟩]) l6 s10 t9 (s6.nt + 3) (by omega) (by omega) (by omega) mk6 (by simp; omega) kk hu10 h10 o10 (by omega)
theorem where_s {p i : Nat} {e : Int} (N : Nat) (hN : N ≤ 100000) {st0 : St} (hi : st0.n ≤ i) (hip : p ≠ i) (hp0 : p < st0.n) {l : List Sg} {vs : List (List UInt8)} {s : St} {t u : Nat} (hlN : l.length < N) (hmk : MkOK l) (k : KsP p st0 s) (h : s.ob p = some (pc l t e)) (o : s.ob i = some (.cells (qC vs u [] 1))) (hin : i < s.n) :
      Par p e qV st0 ((pTake 1 [[119, 104, 101, 114, 101]] l).bind fun _ l2 => (pTake 3 [[123]] l2).bind fun _ l2 => (pAtoms N N [] l2).bind fun ats l2 => (pTake 3 [[125]] l2).bind fun _ l2 => .ok (vs, ats) l2) (g51b1111 (.ptr p 0) (.ptr i 0) s) := by
  have hps : p < s.n := by have := k.n; omega
  unfold g51b1111
  have b1 : ∀ K, A.bslice 1 (.str []) 1 [(0, (.str [119, 104, 101, 114, 101]))] K = K (.lst (strsV [[119, 104, 101, 114, 101]]) 2) := fun K => rfl
  have b2 : ∀ K, A.bslice 1 (.str []) 1 [(0, (.str [123]))] K = K (.lst (strsV [[123]]) 2) := fun K => rfl
  rw [b1]
  simp only [er1_ptr, er1_int, er1_lst]
  refine Par.bind' (take_s h hps 1 (by decide) _ 2 (by simp)) k fun w l1 s1 t1 hr1 k1 h1 => ?_
  have n1 := k1.n
  have hl1 := pTake_lt hr1
  have mk1 := hmk.ok (pTake_suf _ _ l) hr1
  have o1 := (k1.ob i hin (fun g => hip g.symm)).trans o
  rw [b2]
  refine Par.bind' (take_s h1 (by omega) 3 (by decide) _ 2 (by simp)) (k.trans k1) fun w l2 s2 t2 hr2 k2 h2 => ?_
  have n2 := k2.n
  have hl2 := pTake_lt hr2
  have mk2 := mk1.ok (pTake_suf _ _ l1) hr2
  exact atoms_loop N hN hi hip hp0 N big [] l2 s2 t2 1 (by omega) (lt_big (by omega)) (by omega) mk2 (by simp; omega) ((k.trans k1).trans k2) (.inl rfl) h2 ((k2.ob i (by omega) (fun g => hip g.symm)).trans o1) (by omega)
theorem vars_loop {p i : Nat} {e : Int} (N : Nat) (hN : N ≤ 100000) {st0 : St} (hi : st0.n ≤ i) (hip : p ≠ i) (hp0 : p < st0.n) :
    ∀ (l : List Sg) (f : Nat) (vs : List (List UInt8)) (s : St) (t u : Nat), l.length < f → l.length < N → MkOK l → vs.length + l.length ≤ 100000 → KsP p st0 s → Own st0 s 1 u → s.ob p = some (pc l t e) → s.ob i = some (.cells (qC vs u [] 1)) → i < s.n →
      Par p e qV st0 ((pTake 1 [[119, 104, 101, 114, 101]] (pVars vs l).2).bind fun _ l2 => (pTake 3 [[123]] l2).bind fun _ l2 => (pAtoms N N [] l2).bind fun ats l2 => (pTake 3 [[125]] l2).bind fun _ l2 => .ok ((pVars vs l).1, ats) l2) (g51b11100 f (.ptr p 0) (.ptr i 0) s) := by
  intro l
  induction l with
  | nil =>
    intro f vs s t u hf hlN hmk hlen k hu h o hin
    obtain ⟨f, rfl⟩ : ∃ f', f = f' + 1 := ⟨f - 1, by omega⟩
    have hps : p < s.n := by have := k.n; omega
    rw [g51b11100]
    obtain ⟨s1, q1, k1⟩ := now_s h hps
    have n1 := k1.n
    simp only [er1_ptr, er1_int, er1_lst, q1, ret_ret, sgV_k, eql_int, Bool.false_eq_true, if_false]
    rw [show ((nowS [] e).k == 2) = false from rfl, cond_false]
    exact where_s N hN hi hip hp0 hlN hmk (k.trans (k1.toP p)) ((k1.ob p hps).trans h) ((k1.ob i hin).trans o) (by omega)
  | cons x l ih =>
    intro f vs s t u hf hlN hmk hlen k hu h o hin
    obtain ⟨f, rfl⟩ : ∃ f', f = f' + 1 := ⟨f - 1, by omega⟩
    have hps : p < s.n := by have := k.n; omega
    rw [g51b11100]
    obtain ⟨s1, q1, k1⟩ := now_s h hps
    have n1 := k1.n
    have h1 := (k1.ob p hps).trans h
    have o1 := (k1.ob i hin).trans o
    simp only [List.length_cons] at hf hlN hlen
    simp only [er1_ptr, er1_int, er1_lst, q1, ret_ret, sgV_k, eql_int, Bool.false_eq_true, if_false]
    by_cases hx : x.k = 2
    · rw [show ((nowS (x :: l) e).k == 2) = true from by show (x.k == 2) = true; rw [hx]; rfl, cond_true]
      have hv : pVars vs (x :: l) = pVars (vs ++ [x.tx]) l := by rw [pVars, if_pos hx]
      rw [hv]
      have ht : pTake 2 [] (x :: l) = .ok x.tx l := by rw [pTake, if_pos ⟨hx, .inl rfl⟩]
      have := var_step (F := fun w l' => (pTake 1 [[119, 104, 101, 114, 101]] (pVars (vs ++ [x.tx]) l).2).bind fun _ l2 => (pTake 3 [[123]] l2).bind fun _ l2 => (pAtoms N N [] l2).bind fun ats l2 => (pTake 3 [[125]] l2).bind fun _ l2 => .ok ((pVars (vs ++ [x.tx]) l).1, ats) l2) (K := fun a13 z14 => (g51b11100 f) (.ptr p 0) (.ptr i 0) z14) (emb := qV) (k.trans (k1.toP p)) h1 o1 (hu.mono k1) hi hip (by omega) (by omega) (by omega) (fun w l' s' t' u' hw kk hh oo uu ii pp => by
        rw [ht] at hw; cases hw
        exact ih f (vs ++ [x.tx]) s' t' u' (by omega) (by omega) (hmk.suf (List.suffix_cons _ _)) (by simp; omega) kk uu hh oo ii)
      rw [ht, PR.bind_ok] at this
      exact this
    · rw [show ((nowS (x :: l) e).k == 2) = false from by show (x.k == 2) = false; exact beq_eq_false_iff_ne.2 hx, cond_false]
      have hv : pVars vs (x :: l) = (vs, x :: l) := by rw [pVars, if_neg hx]
      rw [hv]
      exact where_s N hN hi hip hp0 (by simp; omega) hmk (k.trans (k1.toP p)) h1 o1 (by omega)
theorem query_s {p : Nat} {e : Int} (N : Nat) (hN : N ≤ 90000) {l : List Sg} {s : St} {t : Nat} (hl : l.length < N) (hmk : MkOK l) (h : s.ob p = some (pc l t e)) (hp : p < s.n) : Par p e qV s (pQuery N l) (s51 [.ptr p 0] s) := by
  rw [s51_eq]
  unfold f51
  have bx : ∀ K : V → St → Res, A.box (.agg [(.lst [] 1), (.lst [] 1)]) s K = K (.ptr s.n 0) (s.new (.cells (qC [] 1 [] 1))) := fun K => rfl
  have b1 : ∀ K, A.bslice 1 (.str []) 1 [(0, (.str [115, 101, 108, 101, 99, 116]))] K = K (.lst (strsV [selW]) 2) := fun K => rfl
  rw [bx, b1]
  have k1 : KsP p s (s.new (.cells (qC [] 1 [] 1))) := (KsP.refl p s).new _
  have h1 : (s.new (.cells (qC [] 1 [] 1))).ob p = some (pc l t e) := by rw [new_ne _ _ (by omega)]; exact h
  have o1 := new_at s (.cells (qC [] 1 [] 1))
  have n1 : s.n < (s.new (.cells (qC [] 1 [] 1))).n := by simp
  generalize s.new (.cells (qC [] 1 [] 1)) = s1 at k1 h1 o1 n1 ⊢
  simp only [er1_ptr, er1_int, er1_lst]
  unfold pQuery
  refine Par.bind' (take_s h1 (by omega) 1 (by decide) [selW] 2 (by simp)) k1 fun w l2 s2 t2 hr2 k2 h2 => ?_
  have n2 := k2.n
  have hl2 := pTake_lt hr2
  have mk2 := hmk.ok (pTake_suf _ _ l) hr2
  have o2 := (k2.ob s.n n1 (by omega)).trans o1
  refine var_step (K := fun a14 z15 => g51b111 (.ptr p 0) (.ptr s.n 0) z15) (k1.trans k2) h2 o2 (.inl rfl) (Nat.le_refl _) (by omega) (by omega) (by omega) (by simp) fun w l3 s3 t3 u3 hr3 k3 h3 o3 hu3 n3 p3 => ?_
  have hl3 := pTake_lt hr3
  have mk3 := mk2.ok (pTake_suf _ _ l2) hr3
  unfold g51b111
  exact vars_loop N (by omega) (Nat.le_refl _) (by omega) hp l3 big [w] s3 t3 u3 (lt_big (by omega)) (by omega) mk3 (by simp; omega) k3 hu3 h3 o3 n3
end Go.Ab
