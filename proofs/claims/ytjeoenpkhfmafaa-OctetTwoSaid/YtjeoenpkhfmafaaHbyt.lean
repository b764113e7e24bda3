import Derived.Test.YtjeoenpkhfmafaaProg
import Derived.Test.YtjeoenpkhfmafaaWMore
import Derived.Lib.Hide
import Derived.Laws.IdiomCopy
import Derived.Lib.AppendStr
import Derived.Lib.UnsafeStr
import Derived.WalkLawsBesides
/- A row of bytes of the call's own, made of a string or grown by append: what it holds, and what append, a new block and string(..) do to it. -/
namespace Go.Proofs.Ytjeoenpkhfmafaa.Hand
open Go.RowKit Go.Proofs.YtjeoenpkhfmafaaW.PrintWords Go.Proofs.YtjeoenpkhfmafaaW.PrintLast Go.Proofs.YtjeoenpkhfmafaaW.PrintMore
set_option linter.unusedVariables false
set_option linter.unusedSimpArgs false

def ByteRow (w : World) (base : Nat) (v : Value) (xs : List UInt8) : Prop :=
  ∃ g cap, v = .slice (some ⟨g, 0, none⟩) xs.length cap ∧ base ≤ g ∧ g < w.heap.size ∧ xs.length ≤ cap ∧
    (∀ j u, (Lib.byteCells xs)[j]? = some u → w.cell? ⟨g, j, none⟩ = some u) ∧ (∀ j, j < cap → (w.cell? ⟨g, j, none⟩).isSome = true ∧ w.frozen? ⟨g, j, none⟩ = false)
section
variable {w w1 : World} {base : Nat} {v : Value} {xs : List UInt8}
theorem ByteRow.below (h : ByteRow w base v xs) (hb : Below w.heap.size w w1) : ByteRow w1 base v xs := by
  obtain ⟨g, cap, rfl, h1, h2, h3, h4, h5⟩ := h
  refine ⟨g, cap, rfl, h1, Nat.lt_of_lt_of_le h2 hb.size, h3, fun j u hj => (hb.cell (p := ⟨g, j, none⟩) h2).trans (h4 j u hj), fun j hj => ?_⟩
  rw [hb.cell (p := ⟨g, j, none⟩) h2, hb.frozen (p := ⟨g, j, none⟩) h2]
  exact h5 j hj
theorem ByteRow.size (h : ByteRow w base v xs) : base ≤ w.heap.size := by
  obtain ⟨g, cap, rfl, h1, h2, _⟩ := h
  omega
theorem ByteRow.string (h : ByteRow w base v xs) : (convert 45 9 v).run Try.prog w = .ok (.string ⟨xs.toArray⟩) w := by
  obtain ⟨g, cap, rfl, h1, h2, h3, h4, h5⟩ := h
  have hc := run_convert_bytes_arg (P := Try.prog) w 45 5 Try.underlying45 Try.underlying5 g 0 xs.length cap (xs.map fun b => (b.toNat : Int)) (by simp) (fun i hi => by
    rw [Nat.zero_add]
    refine h4 i _ ?_
    simp [Lib.byteCells, List.getElem?_eq_getElem hi, List.getD, hi]) 9 Try.underlying9
  rw [hc]
  congr 3
  unfold strOfNums
  congr 1
  rw [List.map_map]
  congr 1
  exact List.map_id'' (fun b => by simp) xs
end
theorem byteRow_of_string (w : World) (s : ByteArray) (B : Nat) (hB : B ≤ w.heap.size) (hs : s.size ≤ maxLen) : ByteRow (Lib.bytesWorld w 5 s) B (.slice (some ⟨w.heap.size, 0, none⟩) s.size (grownCap w s.size 0 5)) s.data.toList := by
  have hl : s.data.toList.length = s.size := by rw [Array.length_toList]; rfl
  have hge := grownCap_ge w s.size 0 5
  have hat := Lib.bytesWorld_at_new w 5 s
  have hcs : (Lib.bytesCells w 5 s).size = grownCap w s.size 0 5 := by
    unfold Lib.bytesCells
    rw [Array.size_append, Array.size_map, Array.size_replicate]
    have : s.data.size = s.size := rfl
    omega
  refine ⟨w.heap.size, _, by rw [hl], hB, by rw [Lib.bytesWorld_size]; omega, by rw [hl]; exact hge, fun j u hj => ?_, fun j hj => ⟨?_, ?_⟩⟩
  · have hjl : j < s.size := by
      rcases Nat.lt_or_ge j s.size with h | h
      · exact h
      · rw [List.getElem?_eq_none (by rw [Lib.byteCells_length, hl]; exact h)] at hj
        cases hj
    rw [Lib.bytesWorld_cell w 5 s j hjl, ← hj]
    simp [Lib.byteCells, List.getD, hl, hjl]
  · simp only [World.cell?, hat]
    simp [hcs, hj]
  · simp only [World.frozen?, hat]
    simp
    omega
section
variable (w : World)
/-- append(v, s...), v such a row. -/
theorem byteRow_append (ty : TypeId) (base : Nat) (v : Value) (xs : List UInt8) (h : ByteRow w base v xs) (s : ByteArray) (hlen : xs.length + s.size ≤ 140737488355328) :
    ∃ v' w', (Builtin.append_ #[45, 9] ty #[v, .string s]).run Try.prog w = .ok v' w' ∧ ByteRow w' base v' (xs ++ s.data.toList) ∧ w.grownBy w' v.ownBlock := by
  have hbase := h.size
  obtain ⟨g, cap, rfl, h1, h2, h3, h4, h5⟩ := h
  have ti : (Try.prog.info? 5).map (fun i => (i.zero, i.size, i.bytes)) = some (some (.int .u8 0), 1, 1) := by kernel_rfl
  obtain ⟨i, hi, hz, hs1, hby⟩ := info_parts ti
  have hsl : s.data.toList.length = s.size := by rw [Array.length_toList]; rfl
  have hall : Lib.byteCells (xs ++ s.data.toList) = Lib.byteCells xs ++ Lib.strCells s := by simp [Lib.byteCells, Lib.strCells]
  have hxl : (Lib.byteCells xs).length = xs.length := Lib.byteCells_length xs
  have hstl : (Lib.strCells s).length = s.size := Lib.strCells_length s
  by_cases hroom : xs.length + s.size ≤ cap
  · have hf := Lib.run_firstCells_string (P := Try.prog) w 1 s
    have hst := run_storeCells_cells (P := Try.prog) g xs.length (Lib.strCells s) 0 w (fun j hj => by rw [Nat.add_zero]; exact (h5 _ (by omega)).1) (fun j hj => by rw [Nat.add_zero]; exact (h5 _ (by omega)).2) (Lib.strCells_oneCell s)
    simp only [Nat.add_zero] at hst
    refine ⟨.slice (some ⟨g, 0, none⟩) (xs.length + s.size) cap, w.setCells g xs.length (Lib.strCells s), ?_, ⟨g, cap, by rw [List.length_append, hsl], h1, ?_, by rw [List.length_append, hsl]; exact hroom, ?_, ?_⟩, ?_⟩
    · simp [Builtin.append_, run_underlying Try.underlying45, run_underlying Try.underlying9, sizeOf, typeInfo, hi, hs1, Builtin.lenOf, hroom, hf, Addr.add_lit, hst]
    · have := (setCells_same g (Lib.strCells s) xs.length w).2.2.2
      omega
    · intro j u hj
      rw [hall] at hj
      by_cases hjx : j < xs.length
      · rw [List.getElem?_append_left (by omega)] at hj
        rw [World.cell?_setCells_out g (Lib.strCells s) xs.length w ⟨g, j, none⟩ (fun _ _ => .inl hjx)]
        exact h4 j u hj
      · rw [List.getElem?_append_right (by omega), hxl] at hj
        have hlt : j - xs.length < (Lib.strCells s).length := by
          rcases Nat.lt_or_ge (j - xs.length) (Lib.strCells s).length with h | h
          · exact h
          · rw [List.getElem?_eq_none h] at hj; cases hj
        have := World.cell?_setCells_in g (Lib.strCells s) xs.length w (fun j hj => (h5 _ (by omega)).1) (j - xs.length) hlt
        rw [show xs.length + (j - xs.length) = j from by omega] at this
        rw [this, ← hj, List.getElem?_eq_getElem hlt]
    · intro j hj
      refine ⟨?_, by rw [World.frozen?_setCells]; exact (h5 j hj).2⟩
      by_cases hjx : j < xs.length ∨ xs.length + (Lib.strCells s).length ≤ j
      · rw [World.cell?_setCells_out g (Lib.strCells s) xs.length w ⟨g, j, none⟩ (fun _ _ => hjx)]
        exact (h5 j hj).1
      · have := World.cell?_setCells_in g (Lib.strCells s) xs.length w (fun j hj => (h5 _ (by omega)).1) (j - xs.length) (by omega)
        rw [show xs.length + (j - xs.length) = j from by omega] at this
        rw [this]
        rfl
    · have hs := setCells_same g (Lib.strCells s) xs.length w
      exact ⟨hs.1, hs.2.1, hs.2.2.1, Nat.le_of_eq hs.2.2.2.symm, fun k hk hne => setCells_far (Lib.strCells s) xs.length k (fun e => hne (by simp [Value.ownBlock, e]))⟩
  · have hr := Lib.run_append_grow_string (P := Try.prog) w 45 9 ty 5 i (.int .u8 0) Try.underlying45 Try.underlying9 hi hz ⟨g, 0, none⟩ xs.length cap (Lib.byteCells xs) (by rw [hs1, hxl, Nat.mul_one]) (fun j u hj => by rw [add_plain]; exact h4 j u hj) s (by omega) (by omega) (by rw [hby]; exact growslice_fits (by omega) (by omega))
    have hge := grownCap_ge w (xs.length + s.size) cap 5
    have hnew : (w.drew.alloc (.cells ((Lib.byteCells xs).toArray ++ (Lib.strCells s).toArray ++ Builtin.zeroCells (Value.int .u8 0).cells (grownCap w (xs.length + s.size) cap 5 - (xs.length + s.size))) 5)).heap[w.heap.size]? = some (.cells ((Lib.byteCells xs).toArray ++ (Lib.strCells s).toArray ++ Builtin.zeroCells (Value.int .u8 0).cells (grownCap w (xs.length + s.size) cap 5 - (xs.length + s.size))) 5 (0, 0)) := heap_alloc_new w.drew (.cells ((Lib.byteCells xs).toArray ++ (Lib.strCells s).toArray ++ Builtin.zeroCells (Value.int .u8 0).cells (grownCap w (xs.length + s.size) cap 5 - (xs.length + s.size))) 5)
    have hsz : ((Lib.byteCells xs).toArray ++ (Lib.strCells s).toArray ++ Builtin.zeroCells (Value.int .u8 0).cells (grownCap w (xs.length + s.size) cap 5 - (xs.length + s.size))).size = grownCap w (xs.length + s.size) cap 5 := by
      have hz1 : (Value.int IntKind.u8 0).cells.size = 1 := rfl
      simp only [Array.size_append, List.size_toArray, size_zeroCells, hz1, hxl, hstl]
      omega
    refine ⟨_, _, hr, ⟨w.heap.size, _, by rw [List.length_append, hsl], hbase, by simp, by rw [List.length_append, hsl]; exact hge, ?_, ?_⟩, ?_⟩
    · intro j u hj
      rw [cell_of_row _ _ j _ _ _ hnew]
      rw [hall] at hj
      have hjl : j < (Lib.byteCells xs ++ Lib.strCells s).length := by
        rcases Nat.lt_or_ge j (Lib.byteCells xs ++ Lib.strCells s).length with h | h
        · exact h
        · rw [List.getElem?_eq_none h] at hj; cases hj
      rw [Array.getElem?_append_left (by simpa using hjl), ← hj]
      simp
    · intro j hj
      refine ⟨?_, ?_⟩
      · rw [cell_of_row _ _ j _ _ _ hnew]
        rw [Array.getElem?_eq_getElem (by rw [hsz]; exact hj)]
        rfl
      · simp only [World.frozen?, show (w.drew.alloc _).heap[w.heap.size]? = _ from hnew]
        simp
    · exact ⟨rfl, rfl, rfl, by simp, fun k hk _ => heap_alloc_old w.drew _ hk⟩
end
/-- The operation, for the walk. -/
theorem wpList_byteRow_append {w : World} {ops : Array Oper} {rest : List Oper} {o : Oper} {a : Act} {Q : Exit → Act → World → Prop} (hgd : o.guard = none) (sl x : Operand)
    (ho : o.op = .call { callee := .builtin .append, args := #[sl, x], argTypes := #[45, 9] })
    (base : Nat) (v : Value) (xs : List UInt8) (hs : a.eval sl = v) (h : ByteRow w base v xs) (s : ByteArray) (hx : a.eval x = .string s) (hlen : xs.length + s.size ≤ 140737488355328)
    (hk : ∀ v' w', ByteRow w' base v' (xs ++ s.data.toList) → w.grownBy w' v.ownBlock → wpList Try.prog ops Q rest (a.put o.dst v') w') :
    wpList Try.prog ops Q (o :: rest) a w := by
  refine wpList_plain hgd fun K hK => ?_
  obtain ⟨v', w', hrun, h1, h2⟩ := byteRow_append w o.type base v xs h s hlen
  unfold Oper.wp
  simp [execOp, ho, resolve, invoke, builtin, hs, hx, hrun, Result.andThen]
  exact hK _ _ (hk v' w' h1 h2)
theorem byteRow_own {w : World} {base : Nat} {v : Value} {xs : List UInt8} (h : ByteRow w base v xs) : ∀ k, v.ownBlock = some k → base ≤ k := by
  obtain ⟨g, cap, rfl, h1, _⟩ := h
  intro k hk
  have : g = k := by simpa [Value.ownBlock] using hk
  omega
end Go.Proofs.Ytjeoenpkhfmafaa.Hand
