/-
  More words for memory: make with a capacity; parts of a slice; append inside a region that draws its order. No program in sight.
-/
import Derived.Test.YtahbflbhkalehaaMem
import Derived.Deep.RegionLaw
namespace Go.Proofs.Ytahbflbhkalehaa
open Go.RowKit

/-- make([]int, 0, n). -/
theorem wpList_make_cap {P : Program} {t : TypeId} (T : ElemTy P t 3 1 8 (.int .i64 0)) {w : World} {ops : Array Oper} {rest : List Oper} {o : Oper} {a : Act} {Q : Exit → Act → World → Prop}
    (hg : o.guard = none) (l c : Operand) (hop : o.op = Op.makeSlice t l c) (base : Nat) (C : Int) (n : Nat) (hl : a.eval l = .int .i64 0) (hc : a.eval c = .int .i64 C) (hC : C = (n : Int))
    (b2 : n ≤ 2000000) (b4 : base ≤ w.heap.size)
    (hK : ∀ w', OwnI w' base (some ⟨w.heap.size, 0, none⟩) 0 n [] → w.grownBy w' none → wpList P ops Q rest (a.put o.dst (.slice (some ⟨w.heap.size, 0, none⟩) 0 n)) w') :
    wpList P ops Q (o :: rest) a w := by
  obtain ⟨i, hi, hz, hs, hb⟩ := T.info
  exact wpList_make_own w hg l c t hop base 3 i _ 1 T.und hi hz hs .i64 .i64 C n hl hc hC (by rw [hb]; omega) (by unfold maxLen; omega) b4 hK

theorem add_addr (b off k : Nat) : (⟨b, off, none⟩ : Addr).add k = ⟨b, off + k, none⟩ := by
  unfold Addr.add
  by_cases h : k = 0
  · subst h; simp
  · rw [if_neg h]

/-- x[k:], as the model has it. -/
theorem Ints.cut {w : World} {a : Option Addr} {n cap : Nat} {xs : List Int} (h : Ints w a n cap xs) {k : Nat} (hk : k ≤ n) :
    Ints w (if cap = k then a else a.map (·.add k)) (n - k) (cap - k) (xs.drop k) := by
  have hl := h.length
  have hc := h.le_cap
  have hm := h.cap_max
  refine ⟨by simp; omega, by omega, by unfold maxLen; omega, fun hn => ?_⟩
  obtain ⟨b, off, rfl, hcell⟩ := h.cells (by omega)
  rw [if_neg (by omega)]
  refine ⟨b, off + k, by rw [Option.map_some, add_addr], fun j u hu => ?_⟩
  rw [List.getElem?_map, List.getElem?_drop] at hu
  have hj : k + j < n := by
    cases hx : xs[k + j]? with
    | none => rw [hx] at hu; simp at hu
    | some y => have := (List.getElem?_eq_some_iff.1 hx).1; omega
  have := hcell (k + j) hj
  rw [List.getElem?_eq_getElem (by omega)] at hu this
  rw [Nat.add_assoc, this]
  exact hu

/-- x[:k]. -/
theorem Ints.head {w : World} {a : Option Addr} {n cap : Nat} {xs : List Int} (h : Ints w a n cap xs) {k : Nat} (hk : k ≤ n) : Ints w a k cap (xs.take k) := by
  have hl := h.length
  have hc := h.le_cap
  refine ⟨by simp; omega, by omega, h.max, fun hn => ?_⟩
  obtain ⟨b, off, rfl, hcell⟩ := h.cells (by omega)
  refine ⟨b, off, rfl, fun j u hu => ?_⟩
  rw [List.getElem?_map, List.getElem?_take] at hu
  by_cases hj : j < k
  · rw [if_pos hj, List.getElem?_eq_getElem (by omega)] at hu
    have := hcell j (by omega)
    rw [List.getElem?_eq_getElem (by omega)] at this
    rw [this]
    exact hu
  · rw [if_neg hj] at hu
    simp at hu

/-- append(s, x...) at ints, inside a region that draws its order. -/
theorem step_append_ints {P : Program} {t : TypeId} (T : ElemTy P t 3 1 8 (.int .i64 0)) {w : World} {ops : Array Oper} {o : Oper} {a : Act} {K : Act → World → Prop} {Q : Exit → Act → World → Prop} {E : Prop} (hgd : o.guard = none) (s x : Operand)
    (ho : o.op = .call { callee := .builtin .append, args := #[s, x], argTypes := #[t, t] }) (base : Nat)
    (A : Option Addr) (n cap : Nat) (xs : List Int) (hs : a.eval s = .slice A n cap) (hown : OwnI w base A n cap xs) (X : Option Addr) (m c : Nat) (ys : List Int) (hxv : a.eval x = .slice X m c) (hx : Ints w X m c ys)
    (hn : n + m ≤ 4000000) (hbase : base ≤ w.heap.size)
    (h : ∀ A' cap' w', OwnI w' base A' (n + m) cap' (xs ++ ys) → w.grownBy w' (A.map (·.block)) → (A' = A ∨ A' = some ⟨w.heap.size, 0, none⟩) → K (a.put o.dst (.slice A' (n + m) cap')) w') :
    if Region.wanted o (yielded ops a.tmps) = true then Oper.wp P o a w K Q else E := by
  rw [if_pos (by simp [Region.wanted, hgd])]
  exact wp_append_cells T s x ho base A n cap _ hs hown X m c _ hxv hx (oneCell_ints ys) (by omega) (by omega) hbase fun A' cap' w' h2 h3 h4 => h A' cap' w' (by
    unfold OwnI; rw [List.map_append]; exact h2) h3 h4

/-- A slice of the call's own behind an append onto another one. -/
theorem Below.appended {B : Nat} {a w w' : World} {A : Option Addr} (h : Below B a w) (hB : B ≤ w.heap.size) (hg : w.grownBy w' (A.map (·.block))) (hA : ∀ x, A = some x → B ≤ x.block) : Below B a w' :=
  h.grown hg hB fun k e => by
    cases A with
    | none => cases e
    | some x => injection e with e; rw [← e]; exact hA x rfl
theorem OwnI.base_le {w : World} {base : Nat} {a : Option Addr} {n cap : Nat} {xs : List Int} (h : OwnI w base a n cap xs) : ∀ x, a = some x → base ≤ x.block := fun x hx => by
  rcases Own.form h with ⟨rfl, _⟩ | ⟨g, rfl, hb, _⟩
  · cases hx
  · cases hx; exact hb
/-- '[]int{}'. -/
theorem OwnI.lit0 (w : World) {base : Nat} (hb : base ≤ w.heap.size) : OwnI (w.alloc (.cells #[] 3)) base (some ⟨w.heap.size, 0, none⟩) 0 0 [] :=
  World.ownsRow_lit (size := 1) w #[] 0 hb (by unfold maxLen; omega) rfl
theorem Ints.cut' {w : World} {a : Option Addr} {n cap : Nat} {xs : List Int} (h : Ints w a n cap xs) {k : Nat} (hk : k ≤ n) (hc : k < cap) :
    Ints w (a.map (·.add k)) (n - k) (cap - k) (xs.drop k) := by
  have := h.cut hk
  rwa [if_neg (by omega)] at this
theorem OwnI.drew {w : World} {base : Nat} {a : Option Addr} {n cap : Nat} {xs : List Int} (h : OwnI w base a n cap xs) : OwnI w.drew base a n cap xs := h
theorem Ints.drew {w : World} {a : Option Addr} {n cap : Nat} {xs : List Int} (h : Ints w a n cap xs) : Ints w.drew a n cap xs := h.below (Below.refl _ _).drew

end Go.Proofs.Ytahbflbhkalehaa
