import Derived.Test.YtjemnldcpafepaaAbP14
import Derived.Test.YtjemnldcpafepaaAbSimp
/- sinewlaw14: what the functions do to a world of nodes. -/
namespace Go.Ab
open Go.RowKit
set_option linter.unusedVariables false
set_option linter.unusedSimpArgs false

structure Nd where
  debt : Nat
  works : Bool
  done : Bool
  parent : Int
structure Sw where
  nd : Nat → Nd
  under : List (Nat × Nat)
  tells : List Nat
  work : Nat → Nat
  ok : Bool
def upd {α : Type} (f : Nat → α) (v : Nat) (x : α) : Nat → α := fun j => if j = v then x else f j
def nodeC (n i : Nat) (d : Nd) : List V := [.int .i64 d.debt, .int .i64 n, .bool (decide (i = 0)), .bool d.works, .bool d.done, .int .i64 d.parent]

variable {n i p : Nat} {d : Nd} {st : St}
theorem given_s (h : st.ob p = some (.cells (nodeC n i d))) (hn : 0 < n) : s22 [.ptr p 0] st = some (.ret (.bool true), st) := by
  rw [s22_eq]; simp [f22, nodeC, h, hn]
theorem owes0_s (h : st.ob p = some (.cells (nodeC n i d))) : s23 [.ptr p 0] st = some (.ret (.int .i64 d.debt), st) := by
  rw [s23_eq]; simp [f23, nodeC, h]
theorem more_s (h : st.ob p = some (.cells (nodeC n i d))) (hb : d.debt < 1073741824) : s24 [.ptr p 0, .int .i64 1] st = some (.ret (.bool true), st.put p (.cells (nodeC n i { d with debt := d.debt + 1 }))) := by
  have h1 : ¬ ((1073741823 : Int) < d.debt) := by omega
  have h2 : (d.debt : Int) ≤ 1073741823 := by omega
  rw [s24_eq]
  simp (disch := first | omega | rfl) [List.getElem?_cons_zero, List.getElem?_cons_succ, f24, nodeC, h, bin_sub, bin_add, h2]
theorem done_s (h : st.ob p = some (.cells (nodeC n i d))) (hn : 0 < n) : s12 [.ptr p 0] st = some (.ret (.bool d.done), st) := by
  rw [s12_eq]; simp [f12, given_s h hn]; simp [nodeC, h]
theorem works_s (h : st.ob p = some (.cells (nodeC n i d))) (hn : 0 < n) : s20 [.ptr p 0] st = some (.ret (.bool d.works), st) := by
  rw [s20_eq]; simp [f20, given_s h hn]; simp [nodeC, h]
theorem owes_s (h : st.ob p = some (.cells (nodeC n i d))) (hn : 0 < n) : s19 [.ptr p 0] st = some (.ret (.int .i64 d.debt), st) := by
  rw [s19_eq]; simp [f19, given_s h hn, owes0_s h]
theorem take_idle (h : st.ob p = some (.cells (nodeC n i d))) (hd : d.done = false) (hw : d.works = false) {m : Nat} (hm : m < n) :
    s15 [.ptr p 0, .int .i64 (m : Nat)] st = some (.ret (.tup [.int .i64 (-1), .int .i64 0]), st.put p (.cells (nodeC n i { d with works := true, parent := m }))) := by
  have h0 : ¬ ((m : Int) < 0) := by omega
  have h1 : ¬ (n ≤ m) := by omega
  have hg := given_s h (by omega)
  rw [s15_eq]; simp (disch := first | omega | rfl) [List.getElem?_cons_zero, List.getElem?_cons_succ, f15, hg, h0, h1, g15b1000_8, g15b1001, g15b11, nodeC, h, hd, hw]
theorem take_busy (h : st.ob p = some (.cells (nodeC n i d))) (hd : d.done = false) (hw : d.works = true) {m : Nat} (hm : m < n) :
    s15 [.ptr p 0, .int .i64 (m : Nat)] st = some (.ret (.tup [.int .i64 m, .int .i64 0]), st) := by
  have h0 : ¬ ((m : Int) < 0) := by omega
  have h1 : ¬ (n ≤ m) := by omega
  have hg := given_s h (by omega)
  rw [s15_eq]; simp (disch := first | omega | rfl) [List.getElem?_cons_zero, List.getElem?_cons_succ, f15, hg, h0, h1, g15b1000_8, g15b1001, g15b11, nodeC, h, hd, hw]
theorem send_s (h : st.ob p = some (.cells (nodeC n i d))) (hn : 0 < n) (hw : d.works = true) (hb : d.debt < 1073741824) :
    s17 [.ptr p 0, .int .i64 1] st = some (.ret (.int .i64 0), st.put p (.cells (nodeC n i { d with debt := d.debt + 1 }))) := by
  have hg := given_s h hn
  have hm := more_s h hb
  rw [s17_eq]; simp (disch := first | omega | rfl) [List.getElem?_cons_zero, List.getElem?_cons_succ, f17, hg, g17b1001, hm]
  simp [h, nodeC, hw]
theorem told_s (h : st.ob p = some (.cells (nodeC n i d))) (hn : 0 < n) (hb : 0 < d.debt) (hb2 : d.debt ≤ 1073741824) :
    s18 [.ptr p 0] st = some (.ret (.int .i64 0), st.put p (.cells (nodeC n i { d with debt := d.debt - 1 }))) := by
  have hg := given_s h hn
  have hz : ((d.debt : Int) == 0) = false := by simp; omega
  have hc : (d.debt : Int) - 1 = ((d.debt - 1 : Nat) : Int) := by omega
  rw [s18_eq]; simp (disch := first | omega | rfl) [List.getElem?_cons_zero, List.getElem?_cons_succ, f18, hg, owes0_s h, hz, g18b11]
  simp (disch := first | omega | rfl) [List.getElem?_cons_zero, List.getElem?_cons_succ, h, nodeC, bin_sub, hc]
theorem rest_owes (h : st.ob p = some (.cells (nodeC n i d))) (hn : 0 < n) (hw : d.works = true) (hb : 0 < d.debt) :
    s16 [.ptr p 0] st = some (.ret (.tup [.int .i64 (-1), .int .i64 0]), st) := by
  have hg := given_s h hn
  have ho := owes0_s h
  rw [s16_eq]; simp (disch := first | omega | rfl) [List.getElem?_cons_zero, List.getElem?_cons_succ, f16, hg, g16b100111, ho]
  simp [h, nodeC, hw, hb]
theorem rest_free (h : st.ob p = some (.cells (nodeC n i d))) (hn : 0 < n) (hw : d.works = true) (hb : d.debt = 0) :
    s16 [.ptr p 0] st = some (.ret (.tup [.int .i64 d.parent, .int .i64 0]), st.put p (.cells (nodeC n i { d with works := false, parent := -1, done := decide (i = 0) }))) := by
  have hg := given_s h hn
  have ho := owes0_s h
  rw [s16_eq]; simp (disch := first | omega | rfl) [List.getElem?_cons_zero, List.getElem?_cons_succ, f16, hg, g16b100111, ho, g16b11, g16b111]
  simp [h, nodeC, hw, hb]

def nodesV (n : Nat) (ids : Nat → Nat) : List V := (List.range n).map fun i => .ptr (ids i) 0
def underV (l : List (Nat × Nat)) : List V := l.map fun p => .agg [.int .i64 (p.1 : Nat), .int .i64 (p.2 : Nat)]
def numsV (l : List Nat) : List V := l.map fun (p : Nat) => .int .i64 p
def workV (n : Nat) (w : Nat → Nat) : List V := (List.range n).map fun i => .int .i64 (w i : Nat)
/-- The world g stands so. -/
structure At (n g : Nat) (ids : Nat → Nat) (wid tn tu tt : Nat) (st : St) (S : Sw) : Prop where
  n0 : 0 < n
  w : st.ob g = some (.cells [.lst (nodesV n ids) tn, .lst (underV S.under) tu, .lst (numsV S.tells) tt, .sl wid 0 n 1, .bool S.ok])
  k : st.ob wid = some (.cells (workV n S.work))
  d : ∀ i, i < n → st.ob (ids i) = some (.cells (nodeC n i (S.nd i)))
  gw : g ≠ wid
  gd : ∀ i, i < n → ids i ≠ g
  wd : ∀ i, i < n → ids i ≠ wid
  inj : ∀ i j, i < n → j < n → ids i = ids j → i = j
  ku : Tok st 2 tu
  kt : Tok st 1 tt
  apart : ∀ k, tu = k + 2 → tt ≠ k + 2
  fu : ∀ k, tu = k + 2 → k < st.nt
  ft : ∀ k, tt = k + 2 → k < st.nt
  bg : g < st.n
  bw : wid < st.n
  bd : ∀ i, i < n → ids i < st.n

variable {g wid tn tu tt v : Nat} {ids : Nat → Nat} {S : Sw}
theorem workV_get (w : Nat → Nat) (h : v < n) : (workV n w)[v]? = some (.int .i64 (w v : Nat)) := by simp [workV, h]
theorem workV_set (w : Nat → Nat) (x : Nat) : (workV n w).set v (.int .i64 (x : Nat)) = workV n (upd w v x) := by
  apply List.ext_getElem?
  intro i
  simp only [workV, List.getElem?_set, List.length_map, List.length_range, List.getElem?_map, upd]
  by_cases h : v = i
  · subst h; by_cases h2 : v < n <;> simp [h2]
  · by_cases h2 : i < n
    · simp [h, h2, Ne.symm h]
    · simp [h, h2]
@[simp] theorem workV_at (w : Nat → Nat) (h : v < (workV n w).length) : (workV n w)[v] = .int .i64 (w v : Nat) := by simp [workV]
@[simp] theorem nodesV_at (h : v < (nodesV n ids).length) : (nodesV n ids)[v] = .ptr (ids v) 0 := by simp [nodesV]
theorem nodesV_get (h : v < n) : (nodesV n ids)[v]? = some (.ptr (ids v) 0) := by simp [nodesV, h]
@[simp] theorem workV_len (w : Nat → Nat) : (workV n w).length = n := by simp [workV]
@[simp] theorem nodesV_len : (nodesV n ids).length = n := by simp [nodesV]
@[simp] theorem underV_len (l : List (Nat × Nat)) : (underV l).length = l.length := by simp [underV]
@[simp] theorem numsV_len (l : List Nat) : (numsV l).length = l.length := by simp [numsV]

/-- A node's cells are written. -/
theorem At.node (h : At n g ids wid tn tu tt st S) (hv : v < n) (x : Nd) : At n g ids wid tn tu tt (st.put (ids v) (.cells (nodeC n v x))) { S with nd := upd S.nd v x } := by
  refine ⟨h.n0, ?_, ?_, fun i hi => ?_, h.gw, h.gd, h.wd, h.inj, h.ku, h.kt, h.apart, h.fu, h.ft, h.bg, h.bw, h.bd⟩
  · rw [put_ne _ _ (Ne.symm (h.gd v hv))]; exact h.w
  · rw [put_ne _ _ (Ne.symm (h.wd v hv))]; exact h.k
  · by_cases e : i = v
    · subst e; simp [upd]
    · rw [put_ne _ _ (fun q => e (h.inj i v hi hv q))]; simp only [upd, if_neg e]; exact h.d i hi
/-- A work's cell is written. -/
theorem At.setWork (h : At n g ids wid tn tu tt st S) (v x : Nat) : At n g ids wid tn tu tt (st.put wid (.cells (workV n (upd S.work v x)))) { S with work := upd S.work v x } := by
  refine ⟨h.n0, ?_, by simp, fun i hi => ?_, h.gw, h.gd, h.wd, h.inj, h.ku, h.kt, h.apart, h.fu, h.ft, h.bg, h.bw, h.bd⟩
  · rw [put_ne _ _ h.gw]; exact h.w
  · rw [put_ne _ _ (h.wd i hi)]; exact h.d i hi
/-- The tells are grown by one. -/
theorem At.tell (h : At n g ids wid tn tu tt st S) (tt' : Nat) (l : List Nat) (st' : St) (ho : ∀ j, j ≠ g → st'.ob j = st.ob j) (hg : st'.ob g = some (.cells [.lst (nodesV n ids) tn, .lst (underV S.under) tu, .lst (numsV l) tt', .sl wid 0 n 1, .bool S.ok]))
    (hn : st'.n = st.n) (hnt : st.nt ≤ st'.nt) (h1 : Tok st' 2 tu) (h2 : Tok st' 1 tt') (h3 : ∀ k, tu = k + 2 → tt' ≠ k + 2) (h4 : ∀ k, tt' = k + 2 → k < st'.nt) : At n g ids wid tn tu tt' st' { S with tells := l } := by
  refine ⟨h.n0, hg, ?_, fun i hi => ?_, h.gw, h.gd, h.wd, h.inj, h1, h2, h3, fun k e => Nat.lt_of_lt_of_le (h.fu k e) hnt, h4, by rw [hn]; exact h.bg, by rw [hn]; exact h.bw, fun i hi => by rw [hn]; exact h.bd i hi⟩
  · rw [ho _ (Ne.symm h.gw)]; exact h.k
  · rw [ho _ (h.gd i hi)]; exact h.d i hi

theorem Tok.app {sz sz' t t' : Nat} (h : Tok st sz t) (hf : ∀ k, t = k + 2 → k < st.nt) (ha : ∀ k, t = k + 2 → t' ≠ k + 2) : Tok (appSt st t' sz') sz t := by
  rcases h with h | ⟨k, hk, h⟩
  · exact .inl h
  · refine .inr ⟨k, hk, ?_⟩
    rw [appSt_tk _ _ _ _ (Nat.ne_of_lt (hf k hk)) (ha k hk)]; exact h
theorem Tok.put {sz t i : Nat} {o : Ob} (h : Tok st sz t) : Tok (st.put i o) sz t := h
theorem At.pushTell (h : At n g ids wid tn tu tt st S) (q : Nat) : At n g ids wid tn tu (st.nt + 2) ((appSt st tt 1).put g (.cells [.lst (nodesV n ids) tn, .lst (underV S.under) tu, .lst (numsV (S.tells ++ [q])) (st.nt + 2), .sl wid 0 n 1, .bool S.ok])) { S with tells := S.tells ++ [q] } :=
  h.tell _ _ _ (fun j hj => by rw [put_ne _ _ hj]; simp) (by simp) (by simp) (by simp) (h.ku.app h.fu h.apart).put (.inr ⟨st.nt, rfl, appSt_new _ _ _⟩) (fun k e => by have := h.fu k e; omega) (fun k e => by simp at *; omega)

/-- A node comes to rest, if it may. -/
def rest (S : Sw) (v : Nat) : Sw :=
  if 0 < S.work v ∨ (S.nd v).works = false then S
  else if 0 < (S.nd v).debt then S
  else { S with nd := upd S.nd v ⟨(S.nd v).debt, false, decide (v = 0), -1⟩, tells := if 0 ≤ (S.nd v).parent then S.tells ++ [(S.nd v).parent.toNat] else S.tells }

theorem numsV_app (l : List Nat) (x : Nat) : numsV l ++ [.int .i64 (x : Nat)] = numsV (l ++ [x]) := by simp [numsV]
theorem szok_nums (l : List Nat) : szok 1 (numsV l) = true := szok_of (by intro v hv; simp [numsV] at hv; obtain ⟨x, _, rfl⟩ := hv; rfl)

theorem rests_s (h : At n g ids wid tn tu tt st S) (hv : v < n) (hl : S.tells.length < 1073741824) :
    ∃ st' tt', s11 [.ptr g 0, .int .i64 (v : Nat)] st = some (.ret (.tup []), st') ∧ At n g ids wid tn tu tt' st' (rest S v) := by
  have hw := works_s (h.d v hv) h.n0
  have hk := workV_get (v := v) S.work hv
  rw [s11_eq]
  by_cases h1 : 0 < S.work v
  · refine ⟨st, tt, ?_, by simp [rest, h1]; exact h⟩
    simp [f11, g11b00_9, g11b1, g11b11, h.w, h.k, iaddr_sl, hv, hk, h1]
  · have e0 : S.work v = 0 := by omega
    cases h2 : (S.nd v).works with
    | false =>
      refine ⟨st, tt, ?_, by simp [rest, h2]; exact h⟩
      simp [f11, g11b00_9, g11b1, g11b11, h.w, h.k, iaddr_sl, hv, hk, e0, iaddr_lst, nodesV_get, hw, h2]
    | true =>
      by_cases h3 : 0 < (S.nd v).debt
      · refine ⟨st, tt, ?_, by simp [rest, h1, h2, h3]; exact h⟩
        have hr := rest_owes (h.d v hv) h.n0 h2 h3
        simp [f11, g11b00_9, g11b1, g11b11, h.w, h.k, iaddr_sl, hv, hk, e0, iaddr_lst, nodesV_get, hw, h2, hr]
      · have e1 : (S.nd v).debt = 0 := by omega
        have hr := rest_free (h.d v hv) h.n0 h2 e1
        have a1 := h.node hv ⟨(S.nd v).debt, false, decide (v = 0), -1⟩
        by_cases h4 : 0 ≤ (S.nd v).parent
        · obtain ⟨q, hq⟩ : ∃ q : Nat, (S.nd v).parent = q := ⟨_, (Int.toNat_of_nonneg h4).symm⟩
          have hx : st.nt + 2 = (st.put (ids v) (.cells (nodeC n v ⟨(S.nd v).debt, false, decide (v = 0), -1⟩))).nt + 2 := rfl
          have ha := fun K => app_tok K a1.kt (l := numsV S.tells) (new := [.int .i64 (q : Nat)]) (by simp; omega) (szok_nums _)
          refine ⟨_, _, ?_, by have := a1.pushTell q; simpa [rest, h1, h2, h3, hq] using this⟩
          simp [f11, g11b00_9, g11b1, g11b11, h.w, h.k, iaddr_sl, hv, hk, e0, iaddr_lst, nodesV_get, hw, h2, hr, a1.w, hq, A.bslice, setP, elemsOf, szok, ha, numsV_app, V.er]
        · refine ⟨_, tt, ?_, by simp [rest, h1, h2, h3, h4]; exact a1⟩
          simp [f11, g11b00_9, g11b1, g11b11, h.w, h.k, iaddr_sl, hv, hk, e0, iaddr_lst, nodesV_get, hw, h2, hr, h4]
/-- The messages under way are told anew. -/
theorem At.mail (h : At n g ids wid tn tu tt st S) (tu' : Nat) (l : List (Nat × Nat)) (st' : St) (ho : ∀ j, j ≠ g → st'.ob j = st.ob j) (hg : st'.ob g = some (.cells [.lst (nodesV n ids) tn, .lst (underV l) tu', .lst (numsV S.tells) tt, .sl wid 0 n 1, .bool S.ok]))
    (hn : st'.n = st.n) (hnt : st.nt ≤ st'.nt) (h1 : Tok st' 2 tu') (h2 : Tok st' 1 tt) (h3 : ∀ k, tu' = k + 2 → tt ≠ k + 2) (h4 : ∀ k, tu' = k + 2 → k < st'.nt) : At n g ids wid tn tu' tt st' { S with under := l } := by
  refine ⟨h.n0, hg, ?_, fun i hi => ?_, h.gw, h.gd, h.wd, h.inj, h1, h2, h3, h4, fun k e => Nat.lt_of_lt_of_le (h.ft k e) hnt, by rw [hn]; exact h.bg, by rw [hn]; exact h.bw, fun i hi => by rw [hn]; exact h.bd i hi⟩
  · rw [ho _ (Ne.symm h.gw)]; exact h.k
  · rw [ho _ (h.gd i hi)]; exact h.d i hi
theorem At.pushUnder (h : At n g ids wid tn tu tt st S) (q : Nat × Nat) : At n g ids wid tn (st.nt + 2) tt ((appSt st tu 2).put g (.cells [.lst (nodesV n ids) tn, .lst (underV (S.under ++ [q])) (st.nt + 2), .lst (numsV S.tells) tt, .sl wid 0 n 1, .bool S.ok])) { S with under := S.under ++ [q] } :=
  h.mail _ _ _ (fun j hj => by rw [put_ne _ _ hj]; simp) (by simp) (by simp) (by simp) (.inr ⟨st.nt, rfl, appSt_new _ _ _⟩) (h.kt.app h.ft (fun k e e2 => h.apart k e2 e)).put (fun k e e2 => by have := h.ft k e2; omega) (fun k e => by simp at *; omega)
theorem underV_app (l : List (Nat × Nat)) (x y : Nat) : underV l ++ [.agg [.int .i64 (x : Nat), .int .i64 (y : Nat)]] = underV (l ++ [(x, y)]) := by simp [underV]
theorem szok_under (l : List (Nat × Nat)) : szok 2 (underV l) = true := szok_of (by intro v hv; simp [underV] at hv; obtain ⟨x, y, _, rfl⟩ := hv; rfl)

def send (S : Sw) (v to : Nat) : Sw :=
  if S.work v = 0 ∨ (S.nd v).works = false then S
  else rest ⟨upd S.nd v ⟨(S.nd v).debt + 1, (S.nd v).works, (S.nd v).done, (S.nd v).parent⟩, S.under ++ [(v, to)], S.tells, upd S.work v (S.work v - 1), S.ok⟩ v
theorem sends_s (h : At n g ids wid tn tu tt st S) (hv : v < n) (to : Nat) (hl : S.tells.length < 1073741824) (hu : S.under.length < 1073741824) (hd : (S.nd v).debt < 1073741824) (hb : S.work v ≤ 1073741824) :
    ∃ st' tu' tt', s8 [.ptr g 0, .int .i64 (v : Nat), .int .i64 (to : Nat)] st = some (.ret (.tup []), st') ∧ At n g ids wid tn tu' tt' st' (send S v to) := by
  have hw := works_s (h.d v hv) h.n0
  rw [s8_eq]
  by_cases h1 : S.work v = 0
  · refine ⟨st, tu, tt, ?_, by simp [send, h1]; exact h⟩
    simp [f8, g8b00_9, g8b1, h.w, h.k, iaddr_sl, hv, h1]
  · have hz : ((S.work v : Int) == 0) = false := by simp; omega
    cases h2 : (S.nd v).works with
    | false =>
      refine ⟨st, tu, tt, ?_, by simp [send, h2]; exact h⟩
      simp [f8, g8b00_9, g8b1, h.w, h.k, iaddr_sl, hv, hz, iaddr_lst, hw, h2]
    | true =>
      have hsub : ∀ K, A.bin .sub (.int .i64 (S.work v)) (.int .i64 1) K = K (.int .i64 ((S.work v - 1 : Nat) : Int)) := by
        intro K; rw [bin_sub K (by omega) (by omega)]; congr 2; omega
      have a1 := h.setWork v (S.work v - 1)
      have hs := send_s (a1.d v hv) h.n0 h2 hd
      dsimp only at hs
      have a2 := a1.node hv ⟨(S.nd v).debt + 1, (S.nd v).works, (S.nd v).done, (S.nd v).parent⟩
      dsimp only at a2
      have a3 := a2.pushUnder (v, to)
      dsimp only at a3
      have ha := fun K => app_tok K a2.ku (l := underV S.under) (new := [.agg [.int .i64 (v : Nat), .int .i64 (to : Nat)]]) (by simp; omega) (szok_under _)
      obtain ⟨st', tt', r1, r2⟩ := rests_s a3 hv (by simpa using hl)
      refine ⟨st', _, tt', ?_, by simpa [send, h1, h2] using r2⟩
      have w1 := a1.w
      have w2 := a2.w
      simp [h2] at r1 ha hs w2
      simp [f8, g8b00_9, g8b1, g8b11, g8b111, h.w, h.k, iaddr_sl, hv, hz, iaddr_lst, hw, h2, hsub, workV_set, w1, w2, hs, A.build, fillP, putL, A.bslice, setP, elemsOf, szok, V.er, V.er0, ha, underV_app, r1]
theorem numsV_take (l : List Nat) (i : Nat) : (numsV l).take i = numsV (l.take i) := by simp [numsV, List.map_take]
theorem numsV_drop (l : List Nat) (i : Nat) : (numsV l).drop i = numsV (l.drop i) := by simp [numsV, List.map_drop]
theorem numsV_add (l m : List Nat) : numsV l ++ numsV m = numsV (l ++ m) := by simp [numsV]
@[simp] theorem numsV_at (l : List Nat) (i : Nat) (h : i < (numsV l).length) : (numsV l)[i] = .int .i64 ((l[i]'(by simpa using h) : Nat) : Int) := by simp [numsV]

/-- The i-th telling comes to the node p. -/
def tellAt (S : Sw) (i p : Nat) : Sw :=
  rest ⟨upd S.nd p ⟨(S.nd p).debt - 1, (S.nd p).works, (S.nd p).done, (S.nd p).parent⟩, S.under, S.tells.take i ++ S.tells.drop (i + 1), S.work, S.ok⟩ p
theorem told_nil (h : At n g ids wid tn tu tt st S) (x : Int) (h0 : S.tells = []) : s10 [.ptr g 0, .int .i64 x] st = some (.ret (.tup []), st) := by
  rw [s10_eq]
  simp [f10, h.w, h0]
theorem tells_s (h : At n g ids wid tn tu tt st S) (x : Int) (h0 : S.tells ≠ []) (hl : S.tells.length < 1073741824) (hd : ∀ p ∈ S.tells, p < n ∧ 0 < (S.nd p).debt ∧ (S.nd p).debt ≤ 1073741824) :
    ∃ i p, ∃ (hi : i < S.tells.length), p = S.tells[i] ∧ ∃ st' tu' tt', s10 [.ptr g 0, .int .i64 x] st = some (.ret (.tup []), st') ∧ At n g ids wid tn tu' tt' st' (tellAt S i p) := by
  have hlen : 0 < S.tells.length := by cases hc : S.tells with | nil => exact absurd hc h0 | cons a l => simp
  have hi : low 65536 x % S.tells.length < S.tells.length := Nat.mod_lt _ hlen
  generalize hie : low 65536 x % S.tells.length = i at hi
  refine ⟨i, S.tells[i], hi, rfl, ?_⟩
  obtain ⟨hp, hd1, hd2⟩ := hd S.tells[i] (List.getElem_mem hi)
  have hz : ((S.tells.length : Int) == 0) = false := by simp; exact h0
  have hadd : ∀ K, A.bin .add (.int .i64 (i : Nat)) (.int .i64 1) K = K (.int .i64 ((i + 1 : Nat) : Int)) := fun K => bin_addN i 1 K (by omega)
  have hs1 := fun K => slice_to (numsV S.tells) tt 1 i K (by simp; omega) (szok_nums _)
  have hs2 : ∀ K, A.slice 1 (.lst (numsV S.tells) tt) (some (.int .i64 ((i : Int) + 1))) none none K = K (.lst (numsV (S.tells.drop (i + 1))) tt) := by
    intro K; have := slice_from (numsV S.tells) tt 1 (i + 1) K (by simp; omega) (szok_nums _)
    rw [numsV_drop] at this; exact this
  rw [numsV_take] at hs1
  have he : ∀ l t st, elemsOf 5 1 (.lst (numsV l) t) st = some (numsV l) := fun l t st => elemsOf_lst 1 _ t st (szok_nums _)
  have ha1 := fun K => app_tok (sz := 1) (t := 1) (l := []) (new := numsV (S.tells.take i)) (st := st) K (.inl rfl) (by simp; omega) rfl
  have ht : Tok (appSt st 1 1) 1 (st.nt + 2) := .inr ⟨st.nt, rfl, appSt_new _ _ _⟩
  have ha2 := fun K => app_tok (sz := 1) (t := st.nt + 2) (l := numsV (S.tells.take i)) (new := numsV (S.tells.drop (i + 1))) (st := appSt st 1 1) K ht (by simp; omega) (szok_nums _)
  simp only [List.nil_append, numsV_add, appSt_nt] at ha1 ha2
  have a1 := h.tell (st.nt + 1 + 2) (S.tells.take i ++ S.tells.drop (i + 1)) ((appSt (appSt st 1 1) (st.nt + 2) 1).put g (.cells [.lst (nodesV n ids) tn, .lst (underV S.under) tu, .lst (numsV (S.tells.take i ++ S.tells.drop (i + 1))) (st.nt + 1 + 2), .sl wid 0 n 1, .bool S.ok]))
    (fun j hj => by rw [put_ne _ _ hj]; simp) (by simp) (by simp) (by simp; omega) ((h.ku.app h.fu (fun k e => by omega)).app (fun k e => by have := h.fu k e; simp; omega) (fun k e => by have := h.fu k e; omega)).put
    (.inr ⟨st.nt + 1, rfl, by have := appSt_new (appSt st 1 1) (st.nt + 2) 1; simpa using this⟩) (fun k e => by have := h.fu k e; omega) (fun k e => by simp at *; omega)
  have hs := told_s (a1.d S.tells[i] hp) h.n0 hd1 hd2
  dsimp only at hs
  have a2 := a1.node hp ⟨(S.nd S.tells[i]).debt - 1, (S.nd S.tells[i]).works, (S.nd S.tells[i]).done, (S.nd S.tells[i]).parent⟩
  dsimp only at a2
  obtain ⟨st', tt', r1, r2⟩ := rests_s a2 hp (by simp; omega)
  refine ⟨st', _, tt', ?_, by simpa [tellAt] using r2⟩
  rw [s10_eq]
  simp [f10, g10b11, g10b11111, g10b111111, h.w, hz, bin_remN, hlen, hie, hi, iaddr_lst, hs1, hs2, he, ha1, ha2, hadd, hs, hp, r1]
/-- Work is laid on, and rest tried. -/
def lay (S : Sw) (v more : Nat) : Sw := rest ⟨S.nd, S.under, S.tells, upd S.work v (S.work v + more), S.ok⟩ v
/-- A message m comes. -/
def meets (S : Sw) (m : Nat × Nat) : Sw :=
  if (S.nd m.2).works = true then { S with tells := S.tells ++ [m.1] }
  else { S with nd := upd S.nd m.2 ⟨(S.nd m.2).debt, true, (S.nd m.2).done, m.1⟩ }
def comeAt (S : Sw) (i : Nat) (m : Nat × Nat) (more : Nat) : Sw := lay (meets { S with under := S.under.take i ++ S.under.drop (i + 1) } m) m.2 more

theorem comes_tail {c : Nat} {m : Nat × Nat} {more : Nat} (h : At n g ids wid tn tu tt st S) (hc : st.ob c = some (.cells [.int .i64 (m.1 : Nat), .int .i64 (m.2 : Nat)])) (h1 : c ≠ wid) (hm : m.2 < n) (hb : S.work m.2 + more ≤ 1073741824) (hl : S.tells.length < 1073741824) :
    ∃ st' tt', g9b111111111 (.ptr g 0) (.int .i64 (more : Nat)) (.ptr c 0) st = some (.ret (.tup []), st') ∧ At n g ids wid tn tu tt' st' (lay S m.2 more) := by
  have a1 := h.setWork m.2 (S.work m.2 + more)
  obtain ⟨st', tt', r1, r2⟩ := rests_s a1 hm (by simpa using hl)
  refine ⟨st', tt', ?_, r2⟩
  have hadd : ∀ K, A.bin .add (.int .i64 (S.work m.2)) (.int .i64 (more : Nat)) K = K (.int .i64 ((S.work m.2 + more : Nat) : Int)) := fun K => bin_addN _ _ K (by omega)
  have hws := workV_set (n := n) (v := m.2) S.work (S.work m.2 + more)
  simp at hws
  simp [g9b111111111, h.w, h.k, hc, iaddr_sl, hm, hadd, hws, put_ne _ _ h1, r1]

theorem meets_s {c : Nat} {m : Nat × Nat} {more : Nat} (h : At n g ids wid tn tu tt st S) (hc : st.ob c = some (.cells [.int .i64 (m.1 : Nat), .int .i64 (m.2 : Nat)])) (h0 : c ≠ g) (h1 : c ≠ wid) (h2 : ∀ i, i < n → c ≠ ids i) (hm1 : m.1 < n) (hm : m.2 < n)
    (hb : S.work m.2 + more ≤ 1073741824) (hl : S.tells.length + 1 < 1073741824) (hd : (S.nd m.2).done = false) :
    ∃ st' tt', g9b111111 (.ptr g 0) (.int .i64 (more : Nat)) (.ptr c 0) st = some (.ret (.tup []), st') ∧ At n g ids wid tn tu tt' st' (lay (meets S m) m.2 more) := by
  cases hw : (S.nd m.2).works with
  | true =>
    have ht := take_busy (h.d m.2 hm) hd hw hm1
    have a1 := h.pushTell m.1
    obtain ⟨st', tt', r1, r2⟩ := comes_tail (c := c) (m := m) (more := more) a1 (by rw [put_ne _ _ h0]; simpa using hc) h1 hm hb (by simp; omega)
    refine ⟨st', tt', ?_, by simpa [meets, hw] using r2⟩
    have ha := fun K => app_tok K h.kt (l := numsV S.tells) (new := [.int .i64 (m.1 : Nat)]) (by simp; omega) (szok_nums _)
    simp [g9b111111, g9b1111111, h.w, hc, iaddr_lst, hm, ht, A.bslice, setP, elemsOf, szok, V.er, ha, numsV_app, r1]
  | false =>
    have ht := take_idle (h.d m.2 hm) hd hw hm1
    have a1 := h.node hm ⟨(S.nd m.2).debt, true, (S.nd m.2).done, m.1⟩
    obtain ⟨st', tt', r1, r2⟩ := comes_tail (c := c) (m := m) (more := more) a1 (by rw [put_ne _ _ (h2 _ hm)]; exact hc) h1 hm hb (by simpa using (by omega : S.tells.length < 1073741824))
    refine ⟨st', tt', ?_, by simpa [meets, hw] using r2⟩
    simp [hd] at r1
    simp [g9b111111, g9b1111111, h.w, hc, iaddr_lst, hm, ht, r1, hd]
theorem underV_take (l : List (Nat × Nat)) (i : Nat) : (underV l).take i = underV (l.take i) := by simp [underV, List.map_take]
theorem underV_drop (l : List (Nat × Nat)) (i : Nat) : (underV l).drop i = underV (l.drop i) := by simp [underV, List.map_drop]
theorem underV_add (l m : List (Nat × Nat)) : underV l ++ underV m = underV (l ++ m) := by simp [underV]
@[simp] theorem underV_at (l : List (Nat × Nat)) (i : Nat) (h : i < (underV l).length) : (underV l)[i] = .agg [.int .i64 ((l[i]'(by simpa using h)).1 : Nat), .int .i64 ((l[i]'(by simpa using h)).2 : Nat)] := by simp [underV]
/-- Other objects are laid. -/
theorem At.fresh (h : At n g ids wid tn tu tt st S) (st' : St) (ho : ∀ j, j < st.n → st'.ob j = st.ob j) (hn : st.n ≤ st'.n) (hk : st'.tk = st.tk) (hnt : st'.nt = st.nt) : At n g ids wid tn tu tt st' S := by
  refine ⟨h.n0, by rw [ho _ h.bg]; exact h.w, by rw [ho _ h.bw]; exact h.k, fun i hi => by rw [ho _ (h.bd i hi)]; exact h.d i hi, h.gw, h.gd, h.wd, h.inj, ?_, ?_, h.apart, fun k e => by rw [hnt]; exact h.fu k e, fun k e => by rw [hnt]; exact h.ft k e, Nat.lt_of_lt_of_le h.bg hn, Nat.lt_of_lt_of_le h.bw hn, fun i hi => Nat.lt_of_lt_of_le (h.bd i hi) hn⟩
  · have := h.ku; unfold Tok at *; rw [hk]; exact this
  · have := h.kt; unfold Tok at *; rw [hk]; exact this
theorem comes_nil (h : At n g ids wid tn tu tt st S) (x : Int) (y : V) (h0 : S.under = []) : s9 [.ptr g 0, .int .i64 x, y] st = some (.ret (.tup []), st) := by
  rw [s9_eq]
  simp [f9, h.w, h0]
theorem comes_s (h : At n g ids wid tn tu tt st S) (x : Int) (more : Nat) (h0 : S.under ≠ []) (hl : S.tells.length + 1 < 1073741824) (hu : S.under.length < 1073741824)
    (hd : ∀ m ∈ S.under, m.1 < n ∧ m.2 < n ∧ (S.nd m.2).done = false ∧ S.work m.2 + more ≤ 1073741824) :
    ∃ i m, ∃ (hi : i < S.under.length), m = S.under[i] ∧ ∃ st' tu' tt', s9 [.ptr g 0, .int .i64 x, .int .i64 (more : Nat)] st = some (.ret (.tup []), st') ∧ At n g ids wid tn tu' tt' st' (comeAt S i m more) := by
  have hlen : 0 < S.under.length := by cases hc : S.under with | nil => exact absurd hc h0 | cons a l => simp
  have hi : low 65536 x % S.under.length < S.under.length := Nat.mod_lt _ hlen
  generalize hie : low 65536 x % S.under.length = i at hi
  refine ⟨i, S.under[i], hi, rfl, ?_⟩
  obtain ⟨hm1, hm2, hdn, hb⟩ := hd S.under[i] (List.getElem_mem hi)
  generalize hme : S.under[i] = m at hm1 hm2 hdn hb
  have hz : ((S.under.length : Int) == 0) = false := by simp; exact h0
  have hadd : ∀ K, A.bin .add (.int .i64 (i : Nat)) (.int .i64 1) K = K (.int .i64 ((i + 1 : Nat) : Int)) := fun K => bin_addN i 1 K (by omega)
  have hs1 := fun K => slice_to (underV S.under) tu 2 i K (by simp; omega) (szok_under _)
  have hs2 : ∀ K, A.slice 2 (.lst (underV S.under) tu) (some (.int .i64 ((i : Int) + 1))) none none K = K (.lst (underV (S.under.drop (i + 1))) tu) := by
    intro K; have := slice_from (underV S.under) tu 2 (i + 1) K (by simp; omega) (szok_under _)
    rw [underV_drop] at this; exact this
  rw [underV_take] at hs1
  have he : ∀ l t st, elemsOf 5 2 (.lst (underV l) t) st = some (underV l) := fun l t st => elemsOf_lst 2 _ t st (szok_under _)
  have hbox := fun K => box_agg [.int .i64 0, .int .i64 0] st K rfl
  -- the state behind the box
  have c0 := h.fresh ((st.new (.cells [.int .i64 0, .int .i64 0])).put st.n (.cells [.int .i64 (m.1 : Nat), .int .i64 (m.2 : Nat)])) (fun j hj => by rw [put_ne _ _ (Nat.ne_of_lt hj), new_ne _ _ (Nat.ne_of_lt hj)]) (by simp) rfl rfl
  generalize hst1 : (st.new (.cells [.int .i64 0, .int .i64 0])).put st.n (.cells [.int .i64 (m.1 : Nat), .int .i64 (m.2 : Nat)]) = st1 at c0
  have hn1 : st1.n = st.n + 1 := by rw [← hst1]; simp
  have hnt1 : st1.nt = st.nt := by rw [← hst1]; simp
  have hc1 : st1.ob st.n = some (.cells [.int .i64 (m.1 : Nat), .int .i64 (m.2 : Nat)]) := by rw [← hst1]; simp
  have ha1 := fun K => app_tok (sz := 2) (t := 1) (l := []) (new := underV (S.under.take i)) (st := st1) K (.inl rfl) (by simp; omega) rfl
  have ht : Tok (appSt st1 1 2) 2 (st1.nt + 2) := .inr ⟨st1.nt, rfl, appSt_new _ _ _⟩
  have ha2 := fun K => app_tok (sz := 2) (t := st1.nt + 2) (l := underV (S.under.take i)) (new := underV (S.under.drop (i + 1))) (st := appSt st1 1 2) K ht (by simp; omega) (szok_under _)
  simp only [List.nil_append, underV_add, appSt_nt] at ha1 ha2
  have a1 := c0.mail (st1.nt + 1 + 2) (S.under.take i ++ S.under.drop (i + 1)) ((appSt (appSt st1 1 2) (st1.nt + 2) 2).put g (.cells [.lst (nodesV n ids) tn, .lst (underV (S.under.take i ++ S.under.drop (i + 1))) (st1.nt + 1 + 2), .lst (numsV S.tells) tt, .sl wid 0 n 1, .bool S.ok]))
    (fun j hj => by rw [put_ne _ _ hj]; simp) (by simp) (by simp) (by simp; omega) (.inr ⟨st1.nt + 1, rfl, by have := appSt_new (appSt st1 1 2) (st1.nt + 2) 2; simpa using this⟩)
    ((c0.kt.app c0.ft (fun k e => by omega)).app (fun k e => by have := c0.ft k e; simp; omega) (fun k e => by have := c0.ft k e; omega)).put
    (fun k e e2 => by have := c0.ft k e2; omega) (fun k e => by simp at *; omega)
  obtain ⟨st', tt', r1, r2⟩ := meets_s (c := st.n) (m := m) (more := more) a1 (by rw [put_ne _ _ (Nat.ne_of_gt h.bg)]; simpa using hc1) (Nat.ne_of_gt h.bg) (Nat.ne_of_gt h.bw) (fun j hj => Nat.ne_of_gt (h.bd j hj)) hm1 hm2 hb hl hdn
  refine ⟨st', _, tt', ?_, r2⟩
  have w1 := c0.w
  try simp at hs2
  try simp at r1
  try simp at ha2
  rw [s9_eq]
  simp [f9, g9b11, g9b11111, h.w, hz, bin_remN, hlen, hie, hi, hme, iaddr_lst, hs1, hbox, store_agg, putL, hst1, w1, ha1, he, hadd, hs2, ha2, r1]
end Go.Ab
