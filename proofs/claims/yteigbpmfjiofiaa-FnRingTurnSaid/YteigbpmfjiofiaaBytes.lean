/-
  A slice of bytes of the call's own, and the two conversions between strings and bytes. No program in sight.
-/
import Derived.Test.YteigbpmfjiofiaaMem
import Derived.Laws.IdiomStrings
import Derived.Laws.BytesArg
namespace Go.Proofs.Yteigbpmfjiofiaa
open Go.RowKit

/-- Block g begins with the bytes bs, none frozen. -/
structure RowB (w : World) (g n : Nat) (bs : List Int) : Prop where
  len : bs.length = n
  cell : ∀ i, i < n → w.cell? ⟨g, i, none⟩ = some (.int .u8 (bs[i]?.getD 0))
  free : ∀ i, i < n → w.frozen? ⟨g, i, none⟩ = false

theorem RowB.stored {w : World} {g n : Nat} {bs : List Int} (h : RowB w g n bs) (k : Nat) (y : Int) : RowB (w.setCell ⟨g, k, none⟩ (.int .u8 y)) g n (bs.set k y) := by
  refine ⟨by simpa using h.len, fun i hi => ?_, fun i hi => by rw [World.frozen?_setCell]; exact h.free i hi⟩
  by_cases hk : i = k
  · subst hk
    rw [World.cell?_setCell_same' _ _ _ (by rw [h.cell i hi]; rfl), List.getElem?_set, if_pos rfl, if_pos (by rw [h.len]; exact hi)]
    rfl
  · rw [World.cell?_setCell_other _ _ _ _ (by intro e; injection e with _ e2 _; exact hk e2.symm), List.getElem?_set, if_neg (by omega)]
    exact h.cell i hi
theorem RowB.below {w w' : World} {g n : Nat} {bs : List Int} (h : RowB w g n bs) (hb : Below w.heap.size w w') : RowB w' g n bs :=
  ⟨h.len, fun i hi => cell_below hb (h.cell i hi), fun i hi => by
    rw [hb.frozen (World.block_lt_of_cell? _ _ (h.cell i hi))]; exact h.free i hi⟩

theorem RowB.of_own {w : World} {base g n cap : Nat} {e : TypeId} {bs : List Int} (h : Own w base e 1 (some ⟨g, 0, none⟩) n cap (bs.map (Value.int .u8))) : RowB w g n bs := by
  have hl : bs.length = n := by have := h.length; simpa using this
  refine ⟨hl, fun i hi => ?_, fun i _ => World.ownsRow.frozenAt h i⟩
  rw [World.ownsRow.cellAt h i (by omega), List.getElem?_map, List.getElem?_eq_getElem (by omega)]
  rfl

/-- '[]byte(s)'. -/
theorem wpList_to_bytes {P : Program} {w : World} {ops : Array Oper} {rest : List Oper} {o : Oper} {a : Act} {Q : Exit → Act → World → Prop}
    (hgd : o.guard = none) (x : Operand) (src dst e : TypeId) (ho : o.op = .convert src dst x) (hs : P.underlying src = some .string) (hd : P.underlying dst = some (.slice e)) (he : P.underlying e = some (.int .u8))
    (s : ByteArray) (hx : a.eval x = .string s)
    (h : ∀ cap w', s.size ≤ cap → RowB w' w.heap.size s.size (s.data.toList.map fun c => (c.toNat : Int)) → Below w.heap.size w w' → wpList P ops Q rest (a.put o.dst (.slice (some ⟨w.heap.size, 0, none⟩) s.size cap)) w') :
    wpList P ops Q (o :: rest) a w := by
  refine wpList_plain hgd fun K hK => ?_
  have hrun := run_bytes_of_string (P := P) w src dst e s hs hd he
  generalize hC : grownCap w s.size 0 e = C at hrun
  have hge : s.size ≤ C := by rw [← hC]; exact grownCap_ge w s.size 0 e
  generalize hR : bytesRow s C = R at hrun
  have hRs : s.size ≤ R.size := by
    rw [← hR]
    simp only [bytesRow, Array.size_append, Array.size_map]
    have : s.size = s.data.size := rfl
    omega
  have hrow : RowB (w.drew.alloc (.cells R e (R.size, R.size + 1))) w.heap.size s.size (s.data.toList.map fun c => (c.toNat : Int)) := by
    refine ⟨by rw [List.length_map]; exact Array.length_toList, fun i hi => ?_, fun i hi => ?_⟩
    · have h1 := World.cell?_alloc_mark w.drew R e (R.size, R.size + 1) i
      rw [show w.drew.heap.size = w.heap.size from rfl] at h1
      rw [h1, ← hR]
      have hi' : i < s.data.size := hi
      simp only [bytesRow, Array.getElem?_append, Array.size_map]
      rw [if_pos hi', Array.getElem?_map, List.getElem?_map, Array.getElem?_toList, Array.getElem?_eq_getElem hi']
      rfl
    · have h1 := World.frozen?_alloc_mark w.drew R e R.size (R.size + 1) i
      rw [show w.drew.heap.size = w.heap.size from rfl] at h1
      rw [h1, Bool.and_eq_false_iff]
      left
      exact decide_eq_false (by omega)
  have hfin := h C _ hge hrow ((Below.refl _ w).drew.alloc (Nat.le_refl _) _)
  clear hC hR
  unfold Oper.wp
  simp [execOp, ho, hx, hrun, Result.andThen]
  exact hK _ _ hfin

/-- 'string(b)'. -/
theorem wpList_to_string {P : Program} {w : World} {ops : Array Oper} {rest : List Oper} {o : Oper} {a : Act} {Q : Exit → Act → World → Prop}
    (hgd : o.guard = none) (x : Operand) (src dst e : TypeId) (ho : o.op = .convert src dst x) (hs : P.underlying src = some (.slice e)) (hd : P.underlying dst = some .string) (he : P.underlying e = some (.int .u8))
    (g n cap : Nat) (bs : List Int) (hx : a.eval x = .slice (some ⟨g, 0, none⟩) n cap) (hr : RowB w g n bs)
    (h : wpList P ops Q rest (a.put o.dst (.string (strOfNums bs))) w) :
    wpList P ops Q (o :: rest) a w := by
  refine wpList_plain hgd fun K hK => ?_
  have hrun := run_convert_bytes_arg (P := P) w src e hs he g 0 n cap bs hr.len (fun i hi => by rw [Nat.zero_add, hr.cell i hi]; simp [List.getD_eq_getElem?_getD]) dst hd
  unfold Oper.wp
  simp [execOp, ho, hx, hrun, Result.andThen]
  exact hK _ _ h

end Go.Proofs.Yteigbpmfjiofiaa
