import Derived.Test.YtimidokohhiacaaAbA10b
/- sinew/query: a path's signs are read as it is. -/
namespace Go.Ab
open Go.RowKit
set_option linter.unusedVariables false
set_option linter.unusedSimpArgs false
/-- None of these marks comes. -/
def NoMk (ms : List (List UInt8)) (rest : List Sg) : Prop := ∀ m ∈ ms, pIs m rest = none
def M0 : List (List UInt8) := [[42], [43], [63]]
def M1 : List (List UInt8) := [[42], [43], [63], [47]]
def M2 : List (List UInt8) := [[42], [43], [63], [47], [124]]
theorem NoMk.mark {ms : List (List UInt8)} {b : UInt8} {l : List Sg} (h : ms.contains [b] = false) : NoMk ms (⟨3, [b], 0⟩ :: l) := fun m hm => by
  rw [pIs, if_neg]
  rintro ⟨_, g⟩
  have : ms.contains [b] = true := List.contains_iff_mem.2 (by have : m = [b] := g.symm; rw [← this]; exact hm)
  rw [h] at this; cases this
theorem NoMk.sub {ms ns : List (List UInt8)} {l : List Sg} (h : NoMk ms l) (k : ∀ m ∈ ns, m ∈ ms) : NoMk ns l := fun m hm => h m (k m hm)
theorem NoMk.other {ms : List (List UInt8)} {x : Sg} {l : List Sg} (h : x.k ≠ 3) : NoMk ms (x :: l) := fun m hm => by
  rw [pIs, if_neg]
  exact fun g => h g.1
theorem stars_stop {p : Pth} {rest : List Sg} (h : NoMk M0 rest) : pStars p rest = (p, rest) := by
  cases rest with
  | nil => rfl
  | cons x l =>
    have a := h [42] (by decide)
    have b := h [43] (by decide)
    have c := h [63] (by decide)
    rw [pIs] at a b c
    split at a
    · cases a
    split at b
    · cases b
    split at c
    · cases c
    rename_i h1 h2 h3
    rw [pStars, if_neg h1, if_neg h2, if_neg h3]
/-- A path's parser on some paths. -/
def Reads (F : List Sg → PR Pth) (ms : List (List UInt8)) (t : List Sg) (q : Pth) : Prop := ∀ rest, NoMk ms rest → F (t ++ rest) = .ok q rest
theorem prim_brk {F : List Sg → PR Pth} {q : Pth} {t : List Sg} (h : Reads F M2 t q) (rest : List Sg) : pPrim F (brk RK true t ++ rest) = .ok q rest := by
  show pPrim F (((⟨3, [40], 0⟩ : Sg) :: (t ++ [⟨3, [41], 0⟩])) ++ rest) = _
  rw [List.cons_append, List.append_assoc, pPrim]
  have hp : pIs [40] (⟨3, [40], 0⟩ :: (t ++ ([⟨3, [41], 0⟩] ++ rest))) = some (t ++ ((⟨3, [41], 0⟩ : Sg) :: rest)) := rfl
  rw [hp]
  simp only
  rw [h _ (.mark (by decide)), PR.bind_ok]
  rfl
theorem prim_word {F : List Sg → PR Pth} (w : List UInt8) (rest : List Sg) : pPrim F ((⟨1, w, 0⟩ : Sg) :: rest) = .ok (.mk 1 w []) rest := by
  rw [pPrim]
  have hp : pIs [40] ((⟨1, w, 0⟩ : Sg) :: rest) = none := by rw [pIs, if_neg]; rintro ⟨g, _⟩; cases g
  rw [hp]
  rfl
theorem tk_word (w : List UInt8) : (Pth.mk 1 w []).tk = [⟨1, w, 0⟩] := rfl
/-- All smaller paths are read. -/
def HF (F : List Sg → PR Pth) (m : Nat) : Prop := ∀ q : Pth, q.shP = true → q.nd < m → Reads F M2 q.tk q
theorem post_tk {F : List Sg → PR Pth} {m : Nat} (hF : HF F m) {p : Pth} (hs : p.shP = true) (hn : p.nd ≤ m) (hk : p.kind ≠ 2 ∧ p.kind ≠ 3) : Reads (pPost F) M0 p.tk p := by
  intro rest hr
  obtain ⟨k, w, l⟩ := p
  simp only [Pth.kind] at hk
  rcases shP_cases hs with ⟨rfl, rfl, hw⟩ | ⟨h, _⟩ | ⟨hk, rfl, q, rfl, hq⟩
  · rw [tk_word, pPost]
    show (pPrim F ((⟨1, w, 0⟩ : Sg) :: rest)).bind _ = _
    rw [prim_word, PR.bind_ok, stars_stop hr]
  · rcases h with h | h
    · exact absurd h hk.1
    · exact absurd h hk.2
  · rw [nd_eq, ndl_cons, ndl_nil] at hn
    have hk1 : k ≠ 1 ∧ k ≠ 3 ∧ k ≠ 2 := by rcases hk with rfl | rfl | rfl <;> decide
    rw [Pth.tk, rend_eq, if_neg hk1.1, if_neg hk1.2.1, if_neg hk1.2.2]
    show pPost F ((brk RK (wrap 4 q.kind) q.tk ++ [⟨3, [sgnB k], 0⟩]) ++ rest) = _
    rw [List.append_assoc, pPost]
    have hp : pPrim F (brk RK (wrap 4 q.kind) q.tk ++ ([⟨3, [sgnB k], 0⟩] ++ rest)) = .ok q ((⟨3, [sgnB k], 0⟩ : Sg) :: rest) := by
      cases hb : wrap 4 q.kind with
      | true => exact prim_brk (hF q hq (by omega)) _
      | false =>
        obtain ⟨k2, w2, l2⟩ := q
        have h1 : k2 = 1 := by
          unfold wrap at hb
          rw [if_neg (by decide), if_neg (by decide)] at hb
          simpa [Pth.kind] using hb
        subst h1
        rcases shP_cases hq with ⟨_, rfl, _⟩ | ⟨h, _⟩ | ⟨h, _⟩
        · exact prim_word w2 _
        · rcases h with h | h <;> cases h
        · rcases h with h | h | h <;> cases h
    rw [hp, PR.bind_ok]
    have e : pStars q ((⟨3, [sgnB k], 0⟩ : Sg) :: rest) = (.mk k [] [q], rest) := by
      have h42 : ((⟨3, [43], 0⟩ : Sg).tx = [42]) = False := by simp
      rcases hk with rfl | rfl | rfl
      · rw [pStars, if_pos ⟨rfl, rfl⟩, stars_stop hr]
      · rw [pStars, if_neg (by rintro ⟨_, g⟩; simp [sgnB] at g), if_pos ⟨rfl, rfl⟩, stars_stop hr]
      · rw [pStars, if_neg (by rintro ⟨_, g⟩; simp [sgnB] at g), if_neg (by rintro ⟨_, g⟩; simp [sgnB] at g), if_pos ⟨rfl, rfl⟩, stars_stop hr]
    rw [e]
theorem post_kid {F : List Sg → PR Pth} {m : Nat} (hF : HF F m) {q : Pth} (hs : q.shP = true) (hn : q.nd < m) : Reads (pPost F) M0 (kidR RK 2 q) q := by
  unfold kidR
  cases hb : wrap 2 q.kind with
  | true =>
    intro rest hr
    rw [pPost, prim_brk (hF q hs hn), PR.bind_ok, stars_stop hr]
  | false =>
    have hk : q.kind ≠ 2 ∧ q.kind ≠ 3 := by
      unfold wrap at hb
      rw [if_neg (by decide), if_pos rfl] at hb
      simp only [Bool.or_eq_false_iff, beq_eq_false_iff_ne] at hb
      exact ⟨hb.2, hb.1⟩
    exact post_tk hF hs (Nat.le_of_lt hn) hk
theorem more_tk {part : List Sg → PR Pth} {ms : List (List UInt8)} {b : UInt8} (hb : ms.contains [b] = false) {mm : Int} : ∀ (l : List Pth) (n : Nat) (acc : List Pth) (rest : List Sg), (∀ q ∈ l, Reads part ms (kidR RK mm q) q) → l.length < n → pIs [b] rest = none → NoMk ms rest → pMore [b] part n acc (tlL [RK.mark b] (l.map (kidR RK mm)) ++ rest) = .ok (acc ++ l) rest
  | [], n, acc, rest, h, hn, hr, hr2 => by
    obtain ⟨n, rfl⟩ : ∃ n', n = n' + 1 := ⟨n - 1, by omega⟩
    show pMore [b] part (n + 1) acc rest = _
    rw [pMore, hr, List.append_nil]
  | q :: l, n, acc, rest, h, hn, hr, hr2 => by
    obtain ⟨n, rfl⟩ : ∃ n', n = n' + 1 := ⟨n - 1, by omega⟩
    have e : tlL [RK.mark b] ((q :: l).map (kidR RK mm)) ++ rest = (⟨3, [b], 0⟩ : Sg) :: (kidR RK mm q ++ (tlL [RK.mark b] (l.map (kidR RK mm)) ++ rest)) := by
      show ([(⟨3, [b], 0⟩ : Sg)] ++ (kidR RK mm q ++ tlL [RK.mark b] (l.map (kidR RK mm)))) ++ rest = _
      simp
    rw [e, pMore]
    have hp : pIs [b] ((⟨3, [b], 0⟩ : Sg) :: (kidR RK mm q ++ (tlL [RK.mark b] (l.map (kidR RK mm)) ++ rest))) = some (kidR RK mm q ++ (tlL [RK.mark b] (l.map (kidR RK mm)) ++ rest)) := by rw [pIs, if_pos ⟨rfl, rfl⟩]
    rw [hp]
    simp only
    have hno : NoMk ms (tlL [RK.mark b] (l.map (kidR RK mm)) ++ rest) := by
      cases l with
      | nil => exact hr2
      | cons q2 l => exact NoMk.mark hb
    rw [h q (by simp) _ hno, PR.bind_ok, more_tk hb l n (acc ++ [q]) rest (fun q2 hq2 => h q2 (by simp [hq2])) (by simp at hn; omega) hr hr2]
    simp
theorem some_tk {part : List Sg → PR Pth} {ms : List (List UInt8)} {b : UInt8} (hb : ms.contains [b] = false) {mm k : Int} {l : List Pth} (hl : 2 ≤ l.length) {n : Nat} (hn : l.length ≤ n) (h : ∀ q ∈ l, Reads part ms (kidR RK mm q) q) {rest : List Sg} (hr : pIs [b] rest = none) (hr2 : NoMk ms rest) :
    pSome k [b] part n (joinL [RK.mark b] (l.map (kidR RK mm)) ++ rest) = .ok (.mk k [] l) rest := by
  match l, hl, hn, h with
  | q :: q2 :: l, hl, hn, h =>
    show pSome k [b] part n ((kidR RK mm q ++ tlL [RK.mark b] ((q2 :: l).map (kidR RK mm))) ++ rest) = _
    have hno : NoMk ms (tlL [RK.mark b] ((q2 :: l).map (kidR RK mm)) ++ rest) := NoMk.mark hb
    rw [List.append_assoc, pSome, h q (by simp) _ hno, PR.bind_ok, more_tk hb (q2 :: l) n [q] rest (fun q3 hq3 => h q3 (by simp at hq3 ⊢; exact .inr hq3)) (by simp at hn ⊢; omega) hr hr2, PR.bind_ok]
    rfl
theorem some_one {part : List Sg → PR Pth} {ms : List (List UInt8)} {b : UInt8} {k : Int} {t : List Sg} {q : Pth} (h : Reads part ms t q) {n : Nat} (hn : 0 < n) {rest : List Sg} (hr : pIs [b] rest = none) (hr2 : NoMk ms rest) : pSome k [b] part n (t ++ rest) = .ok q rest := by
  obtain ⟨n, rfl⟩ : ∃ n', n = n' + 1 := ⟨n - 1, by omega⟩
  rw [pSome, h rest hr2, PR.bind_ok, pMore, hr]
  rfl
theorem seq_tk {F : List Sg → PR Pth} {m : Nat} (hF : HF F m) {p : Pth} (hs : p.shP = true) (hn : p.nd ≤ m) (hk : p.kind ≠ 3) : Reads (pSome 2 [47] (pPost F) m) M1 p.tk p := by
  intro rest hr
  have h47 : pIs [47] rest = none := hr [47] (by decide)
  have h0 : NoMk M0 rest := hr.sub (by decide)
  have hpos := nd_pos p
  by_cases h2 : p.kind = 2
  · obtain ⟨k, w, l⟩ := p
    simp only [Pth.kind] at h2
    subst h2
    rcases shP_cases hs with ⟨h, _⟩ | ⟨_, rfl, hl, hq⟩ | ⟨h, _⟩
    · cases h
    · rw [nd_eq] at hn
      have hll := ndl_len l
      rw [Pth.tk, rend_eq, if_neg (by decide), if_neg (by decide), if_pos rfl, rends_map]
      exact some_tk (ms := M0) (by decide) hl (by omega) (fun q hq' => post_kid hF (hq q hq') (by have := ndl_mem hq'; omega)) h47 h0
    · rcases h with h | h | h <;> cases h
  · exact some_one (post_tk hF hs hn ⟨h2, hk⟩) (by omega) h47 h0
theorem seq_kid {F : List Sg → PR Pth} {m : Nat} (hF : HF F m) {q : Pth} (hs : q.shP = true) (hn : q.nd < m) : Reads (pSome 2 [47] (pPost F) m) M1 (kidR RK 3 q) q := by
  unfold kidR
  cases hb : wrap 3 q.kind with
  | true =>
    intro rest hr
    refine some_one (ms := M0) (fun rest hr => ?_) (by omega) (hr [47] (by decide)) (hr.sub (by decide))
    rw [pPost, prim_brk (hF q hs hn), PR.bind_ok, stars_stop hr]
  | false =>
    have hk : q.kind ≠ 3 := by
      unfold wrap at hb
      rw [if_pos rfl] at hb
      simpa using hb
    exact seq_tk hF hs (Nat.le_of_lt hn) hk
/-- A path's signs are read as it is. -/
theorem path_tk : ∀ (n : Nat), HF (pPath n) n
  | 0, q, _, hn => absurd hn (by omega)
  | m + 1, p, hs, hn => by
    have hF := path_tk m
    intro rest hr
    have h124 : pIs [124] rest = none := hr [124] (by decide)
    have h1 : NoMk M1 rest := hr.sub (by decide)
    have hpos := nd_pos p
    rw [pPath]
    by_cases h3 : p.kind = 3
    · obtain ⟨k, w, l⟩ := p
      simp only [Pth.kind] at h3
      subst h3
      rcases shP_cases hs with ⟨h, _⟩ | ⟨_, rfl, hl, hq⟩ | ⟨h, _⟩
      · cases h
      · rw [nd_eq] at hn
        have hll := ndl_len l
        rw [Pth.tk, rend_eq, if_neg (by decide), if_pos rfl, rends_map]
        exact some_tk (ms := M1) (by decide) hl (by omega) (fun q hq' => seq_kid hF (hq q hq') (by have := ndl_mem hq'; omega)) h124 h1
      · rcases h with h | h | h <;> cases h
    · exact some_one (seq_tk hF hs (by omega) h3) (by omega) h124 h1
end Go.Ab
