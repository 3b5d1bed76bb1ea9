/-
  Words for memory: a slice of slices of ints, all of the call's own. No program in sight.
-/
import Derived.Test.YtahbflbhkalehaaMem3
namespace Go.Proofs.Ytahbflbhkalehaa
open Go.RowKit

/-- The slice reads as a list of lists; its rows are the call's own. -/
def RowsI (w : World) (base : Nat) (a : Option Addr) (n cap : Nat) (xss : List (List Int)) : Prop :=
  ∃ vs : List Value, Own w base 23 1 a n cap vs ∧ vs.length = xss.length ∧ ∀ (j : Nat) (xs : List Int), xss[j]? = some xs → ∃ (A : Option Addr) (m c : Nat), vs[j]? = some (Value.slice A m c) ∧ OwnI w base A m c xs

theorem RowsI.length {w : World} {base : Nat} {a : Option Addr} {n cap : Nat} {xss : List (List Int)} (h : RowsI w base a n cap xss) : xss.length = n := by
  obtain ⟨vs, ho, hl, _⟩ := h
  have := ho.length
  omega
theorem RowsI.below {w w' : World} {base : Nat} {a : Option Addr} {n cap : Nat} {xss : List (List Int)} (h : RowsI w base a n cap xss) (hb : Below w.heap.size w w') : RowsI w' base a n cap xss := by
  obtain ⟨vs, ho, hl, hr⟩ := h
  refine ⟨vs, ho.below hb, hl, fun j xs hx => ?_⟩
  obtain ⟨A, m, c, e, o⟩ := hr j xs hx
  exact ⟨A, m, c, e, o.below hb⟩
theorem RowsI.mono {w : World} {base base' : Nat} {a : Option Addr} {n cap : Nat} {xss : List (List Int)} (h : RowsI w base a n cap xss) (hb : base' ≤ base) : RowsI w base' a n cap xss := by
  obtain ⟨vs, ho, hl, hr⟩ := h
  refine ⟨vs, ho.mono hb, hl, fun j xs hx => ?_⟩
  obtain ⟨A, m, c, e, o⟩ := hr j xs hx
  exact ⟨A, m, c, e, o.mono hb⟩
theorem RowsI.drew {w : World} {base : Nat} {a : Option Addr} {n cap : Nat} {xss : List (List Int)} (h : RowsI w base a n cap xss) : RowsI w.drew base a n cap xss := h.below (Below.refl _ _).drew
theorem RowsI.le_cap {w : World} {base : Nat} {a : Option Addr} {n cap : Nat} {xss : List (List Int)} (h : RowsI w base a n cap xss) : n ≤ cap ∧ cap ≤ 9223372036854775807 := by
  obtain ⟨vs, ho, _⟩ := h
  have h1 := ho.toCells.le
  have h2 := ho.toCells.max
  unfold maxLen at h2
  omega
theorem RowsI.base_le {w : World} {base : Nat} {a : Option Addr} {n cap : Nat} {xss : List (List Int)} (h : RowsI w base a n cap xss) : AllGe a base := fun x hx => by
  obtain ⟨vs, ho, _⟩ := h
  rcases Own.form ho with ⟨rfl, _⟩ | ⟨g, rfl, hb, _⟩
  · cases hx
  · cases hx; exact hb
/-- A row. -/
theorem RowsI.row {w : World} {base : Nat} {a : Option Addr} {n cap : Nat} {xss : List (List Int)} (h : RowsI w base a n cap xss) {j : Nat} (hj : j < n) :
    ∃ (g : Nat) (A : Option Addr) (m c : Nat), a = some ⟨g, 0, none⟩ ∧ w.cell? ⟨g, j, none⟩ = some (.slice A m c) ∧ OwnI w base A m c (xss[j]?.getD []) := by
  have hlen := h.length
  obtain ⟨vs, ho, hl, hr⟩ := h
  obtain ⟨A, m, c, e, o⟩ := hr j xss[j] (List.getElem?_eq_getElem (by omega))
  obtain ⟨b, off, ha, hc⟩ := ho.toCells.at_ (by omega)
  rcases Own.form ho with ⟨rfl, _⟩ | ⟨g, rfl, _, _⟩
  · cases ha
  · cases ha
    refine ⟨_, A, m, c, rfl, ?_, ?_⟩
    · have := hc j _ e
      rwa [Nat.zero_add] at this
    · rw [List.getElem?_eq_getElem (by omega), Option.getD_some]; exact o
theorem OwnI.row_apart {w : World} {base base' : Nat} {a A : Option Addr} {n cap m c : Nat} {xs : List Int} {vs : List Value} (h : OwnI w base a n cap xs) (ho : Own w base' 23 1 A m c vs) : ∀ x y, a = some x → A = some y → x.block ≠ y.block := by
  intro x y hx hy e
  rcases h.2 with ⟨h1, _⟩ | ⟨g, cap', cur, h1, _, hg, _⟩
  · rw [hx] at h1; simp at h1
  · rcases ho.2 with ⟨h2, _⟩ | ⟨g', cap'', cur', h2, _, hg', _⟩
    · rw [hy] at h2; simp at h2
    · rw [hx] at h1
      rw [hy] at h2
      simp only [Value.slice.injEq, Option.some.injEq] at h1 h2
      have e1 : g = g' := by rw [h1.1, h2.1] at e; exact e
      rw [e1, hg'] at hg
      simp at hg

/-- append(s, x...) at slices of ints. -/
theorem wpList_append_rows {P : Program} {t : TypeId} (T : ElemTy P t 23 1 24 (.slice none 0 0)) {w : World} {ops : Array Oper} {rest : List Oper} {o : Oper} {a : Act} {Q : Exit → Act → World → Prop} (hgd : o.guard = none) (s x : Operand)
    (ho : o.op = .call { callee := .builtin .append, args := #[s, x], argTypes := #[t, t] }) (base : Nat)
    (A : Option Addr) (n cap : Nat) (xss : List (List Int)) (hs : a.eval s = .slice A n cap) (hown : RowsI w base A n cap xss) (X : Option Addr) (m c : Nat) (yss : List (List Int)) (hxv : a.eval x = .slice X m c) (hx : RowsI w base X m c yss)
    (hn : n + m ≤ 4000000) (hbase : base ≤ w.heap.size)
    (h : ∀ A' cap' w', RowsI w' base A' (n + m) cap' (xss ++ yss) → w.grownBy w' (A.map (·.block)) → (A' = A ∨ A' = some ⟨w.heap.size, 0, none⟩) → wpList P ops Q rest (a.put o.dst (.slice A' (n + m) cap')) w') : wpList P ops Q (o :: rest) a w := by
  have hl1 := hown.length
  obtain ⟨vs, hv, hvl, hvr⟩ := hown
  obtain ⟨us, hu, hul, hur⟩ := hx
  have one : ∀ u ∈ us, u.oneCell' = true := fun u hu' => by
    obtain ⟨j, hj, e⟩ := List.mem_iff_getElem.1 hu'
    obtain ⟨B, p, q, e2, _⟩ := hur j yss[j] (List.getElem?_eq_getElem (by omega))
    rw [List.getElem?_eq_getElem hj, e] at e2
    cases e2
    rfl
  refine wpList_append_cells T hgd s x ho base A n cap vs hs hv X m c us hxv hu.toCells one (by omega) (by omega) hbase fun A' cap' w' h2 h3 h4 => h A' cap' w' ⟨vs ++ us, h2, by simp [hvl, hul], fun j xs hj => ?_⟩ h3 h4
  rw [List.getElem?_append] at hj
  by_cases hlt : j < xss.length
  · rw [if_pos hlt] at hj
    obtain ⟨B, p, q, e, ob⟩ := hvr j xs hj
    exact ⟨B, p, q, by rw [List.getElem?_append_left (by omega)]; exact e, ob.apart h3 (ob.row_apart hv)⟩
  · rw [if_neg hlt] at hj
    obtain ⟨B, p, q, e, ob⟩ := hur _ xs hj
    exact ⟨B, p, q, by rw [List.getElem?_append_right (by omega), hvl]; exact e, ob.apart h3 (ob.row_apart hv)⟩

/-- append(s, row): the one row lies in a block of its own. -/
theorem wpList_append_row {P : Program} {t : TypeId} (T : ElemTy P t 23 1 24 (.slice none 0 0)) {w : World} {ops : Array Oper} {rest : List Oper} {o : Oper} {a : Act} {Q : Exit → Act → World → Prop} (hgd : o.guard = none) (s x : Operand)
    (ho : o.op = .call { callee := .builtin .append, args := #[s, x], argTypes := #[t, t] }) (base : Nat)
    (A : Option Addr) (n cap : Nat) (xss : List (List Int)) (hs : a.eval s = .slice A n cap) (hown : RowsI w base A n cap xss) (g : Nat) (B : Option Addr) (m c : Nat) (ys : List Int) (hxv : a.eval x = .slice (some ⟨g, 0, none⟩) 1 1) (hx : w.cell? ⟨g, 0, none⟩ = some (.slice B m c)) (hy : OwnI w base B m c ys)
    (hn : n ≤ 4000000) (hbase : base ≤ w.heap.size)
    (h : ∀ A' cap' w', RowsI w' base A' (n + 1) cap' (xss ++ [ys]) → w.grownBy w' (A.map (·.block)) → (A' = A ∨ A' = some ⟨w.heap.size, 0, none⟩) → wpList P ops Q rest (a.put o.dst (.slice A' (n + 1) cap')) w') : wpList P ops Q (o :: rest) a w := by
  obtain ⟨vs, hv, hvl, hvr⟩ := hown
  refine wpList_append_cells T hgd s x ho base A n cap vs hs hv (some ⟨g, 0, none⟩) 1 1 [.slice B m c] hxv
    ⟨rfl, Nat.le_refl _, by unfold maxLen; omega, fun _ => ⟨g, 0, rfl, fun j u hu => by
      cases j with
      | zero => simp at hu; subst hu; exact hx
      | succ j => simp at hu⟩⟩ (by simp [Value.oneCell']) (by omega) (by omega) hbase fun A' cap' w' h2 h3 h4 => h A' cap' w' ⟨vs ++ [.slice B m c], h2, by simp [hvl], fun j xs hj => ?_⟩ h3 h4
  rw [List.getElem?_append] at hj
  by_cases hlt : j < xss.length
  · rw [if_pos hlt] at hj
    obtain ⟨B, p, q, e, ob⟩ := hvr j xs hj
    exact ⟨B, p, q, by rw [List.getElem?_append_left (by omega)]; exact e, ob.apart h3 (ob.row_apart hv)⟩
  · rw [if_neg hlt] at hj
    have hj0 : j = xss.length := by have := (List.getElem?_eq_some_iff.1 hj).1; simp at this; omega
    subst hj0
    rw [Nat.sub_self] at hj
    cases hj
    exact ⟨B, m, c, by rw [← hvl, List.getElem?_append_right (Nat.le_refl _), Nat.sub_self]; rfl, hy.apart h3 (hy.row_apart hv)⟩

/-- '[][]int{}'. -/
theorem RowsI.lit0 (w : World) {base : Nat} (hb : base ≤ w.heap.size) : RowsI (w.alloc (.cells #[] 23)) base (some ⟨w.heap.size, 0, none⟩) 0 0 [] :=
  ⟨[], World.ownsRow_lit (size := 1) w #[] 0 hb (by unfold maxLen; omega) rfl, rfl, fun j xs h => by simp at h⟩
/-- '[][]int{x}'. -/
theorem RowsI.lit1 (w : World) {base : Nat} (hb : base ≤ w.heap.size) {A : Option Addr} {m c : Nat} {xs : List Int} (ho : OwnI w base A m c xs) : RowsI (w.alloc (.cells #[.slice A m c] 23)) base (some ⟨w.heap.size, 0, none⟩) 1 1 [xs] :=
  ⟨[.slice A m c], World.ownsRow_lit (size := 1) w #[.slice A m c] 1 hb (by unfold maxLen; omega) rfl, rfl, fun j ys h => by
    cases j with
    | zero => cases h; exact ⟨A, m, c, rfl, ho.below ((Below.refl _ _).alloc (Nat.le_refl _) _)⟩
    | succ j => simp at h⟩

/-- The blocks from lo to hi are as they were. -/
def Keeps (lo hi : Nat) (w w' : World) : Prop := ∀ g, lo ≤ g → g < hi → w'.heap[g]? = w.heap[g]?
theorem Keeps.refl (lo hi : Nat) (w : World) : Keeps lo hi w w := fun _ _ _ => rfl
theorem Keeps.trans {lo hi : Nat} {w w' w'' : World} (h : Keeps lo hi w w') (h' : Keeps lo hi w' w'') : Keeps lo hi w w'' := fun g h1 h2 => (h' g h1 h2).trans (h g h1 h2)
theorem Keeps.below {lo hi : Nat} {w w' w'' : World} (h : Keeps lo hi w w') (hb : Below w'.heap.size w' w'') (hh : hi ≤ w'.heap.size) : Keeps lo hi w w'' := fun g h1 h2 => (hb.block g (by omega)).trans (h g h1 h2)
theorem Keeps.grown {lo hi : Nat} {w w' w'' : World} {A : Option Addr} (h : Keeps lo hi w w') (hg : w'.grownBy w'' (A.map (·.block))) (hh : hi ≤ w'.heap.size) (hA : ∀ x, A = some x → x.block < lo ∨ hi ≤ x.block) : Keeps lo hi w w'' := fun g h1 h2 => by
  refine (hg.5 g (by omega) ?_).trans (h g h1 h2)
  cases A with
  | none => simp
  | some x =>
    have := hA x rfl
    simp only [Option.map_some, ne_eq, Option.some.injEq]
    omega
theorem Own.keep {w w' : World} {base : Nat} {e : TypeId} {size : Nat} {a : Option Addr} {n cap : Nat} {vs : List Value} (h : Own w base e size a n cap vs) (hk : Keeps base w.heap.size w w') : Own w' base e size a n cap vs := by
  refine ⟨h.1, ?_⟩
  rcases h.2 with h1 | ⟨g, cap', cur, h1, hbs, hg, r⟩
  · exact .inl h1
  · refine .inr ⟨g, cap', cur, h1, hbs, ?_, r⟩
    rw [hk g hbs ?_]
    · exact hg
    · rcases Nat.lt_or_ge g w.heap.size with hlt | hge
      · exact hlt
      · rw [Array.getElem?_eq_none hge] at hg; cases hg
theorem RowsI.keep {w w' : World} {base : Nat} {a : Option Addr} {n cap : Nat} {xss : List (List Int)} (h : RowsI w base a n cap xss) (hk : Keeps base w.heap.size w w') : RowsI w' base a n cap xss := by
  obtain ⟨vs, ho, hl, hr⟩ := h
  refine ⟨vs, ho.keep hk, hl, fun j xs hx => ?_⟩
  obtain ⟨A, m, c, e, o⟩ := hr j xs hx
  exact ⟨A, m, c, e, Own.keep o hk⟩

/-- What a call returns that hands back a slice of slices of ints. -/
def RRows (w : World) (base : Nat) (xss : List (List Int)) (e : Ending) (w' : World) : Prop := ∃ a n cap, e = .returned (.slice a n cap) ∧ RowsI w' base a n cap xss ∧ Below w.heap.size w w'

end Go.Proofs.Ytahbflbhkalehaa
