/-
  Words for memory: a slice whose cells read as a list, a slice of the call's own, what a call returns; the laws for make and append in these words. No program in sight.
-/
import Derived.WalkKit
import Derived.Maps.AppendAt
import Derived.Deep.AppendLies
import Derived.Deep.Draws
import Derived.Deep.OwnRows
import Derived.Lib.Hide
namespace Go.Proofs.Ytahbflbhkalehaa
open Go.RowKit

/-- The slice value '.slice a n cap', elements of 'size' cells each, holds the cells vs. -/
structure Cells (w : World) (size : Nat) (a : Option Addr) (n cap : Nat) (vs : List Value) : Prop where
  len : vs.length = n * size
  le : n ≤ cap
  max : cap ≤ maxLen
  at_ : 0 < n → ∃ b off, a = some ⟨b, off, none⟩ ∧ ∀ j u, vs[j]? = some u → w.cell? ⟨b, off + j, none⟩ = some u

/-- The slice value reads as a list of ints. -/
def Ints (w : World) (a : Option Addr) (n cap : Nat) (xs : List Int) : Prop := Cells w 1 a n cap (xs.map (Value.int .i64))

/-- A slice of the call's own: nil, or at the head of a block from 'base' on. -/
def Own (w : World) (base : Nat) (e : TypeId) (size : Nat) (a : Option Addr) (n cap : Nat) (vs : List Value) : Prop := w.ownsRow base e size (.slice a n cap) n vs

theorem cells_kept {w w' : World} {size : Nat} {a : Option Addr} {n cap : Nat} {vs : List Value} (h : Cells w size a n cap vs)
    (hk : ∀ p u, w.cell? p = some u → w'.cell? p = some u) : Cells w' size a n cap vs :=
  ⟨h.len, h.le, h.max, fun hn => by
    obtain ⟨b, off, e, hc⟩ := h.at_ hn
    exact ⟨b, off, e, fun j u hu => hk _ _ (hc j u hu)⟩⟩

theorem cell_below {w w' : World} (hb : Below w.heap.size w w') {p : Addr} {u : Value} (h : w.cell? p = some u) : w'.cell? p = some u :=
  (hb.cell (World.block_lt_of_cell? _ _ h)).trans h

theorem Cells.below {w w' : World} {size : Nat} {a : Option Addr} {n cap : Nat} {vs : List Value} (h : Cells w size a n cap vs) (hb : Below w.heap.size w w') : Cells w' size a n cap vs :=
  cells_kept h fun _ _ hc => cell_below hb hc

theorem Ints.below {w w' : World} {a : Option Addr} {n cap : Nat} {xs : List Int} (h : Ints w a n cap xs) (hb : Below w.heap.size w w') : Ints w' a n cap xs := Cells.below h hb
theorem Ints.length {w : World} {a : Option Addr} {n cap : Nat} {xs : List Int} (h : Ints w a n cap xs) : xs.length = n := by
  have := h.len; simpa using this
theorem Ints.le_cap {w : World} {a : Option Addr} {n cap : Nat} {xs : List Int} (h : Ints w a n cap xs) : n ≤ cap := h.le
theorem Ints.cap_max {w : World} {a : Option Addr} {n cap : Nat} {xs : List Int} (h : Ints w a n cap xs) : cap ≤ 9223372036854775807 := by
  have := h.max; unfold maxLen at this; omega
theorem Ints.cells {w : World} {a : Option Addr} {n cap : Nat} {xs : List Int} (h : Ints w a n cap xs) (hn : 0 < n) :
    ∃ b off, a = some ⟨b, off, none⟩ ∧ ∀ i, i < n → w.cell? ⟨b, off + i, none⟩ = some (.int .i64 (xs[i]?.getD 0)) := by
  obtain ⟨b, off, e, hc⟩ := Cells.at_ h hn
  refine ⟨b, off, e, fun i hi => hc i _ ?_⟩
  have hl := h.length
  rw [List.getElem?_map, List.getElem?_eq_getElem (by omega)]
  rfl
theorem Ints.mk' {w : World} {b off n cap : Nat} {xs : List Int} (hl : xs.length = n) (hle : n ≤ cap) (hm : cap ≤ maxLen)
    (hc : ∀ i, i < n → w.cell? ⟨b, off + i, none⟩ = some (.int .i64 (xs[i]?.getD 0))) : Ints w (some ⟨b, off, none⟩) n cap xs :=
  ⟨by simpa using hl, hle, hm, fun _ => ⟨b, off, rfl, fun j u hu => by
    rw [List.getElem?_map] at hu
    cases hj : xs[j]? with
    | none => rw [hj] at hu; simp at hu
    | some y =>
      rw [hj] at hu
      have hlt : j < n := by rw [List.getElem?_eq_some_iff] at hj; obtain ⟨h, _⟩ := hj; omega
      rw [hc j hlt, hj, ← hu]
      rfl⟩⟩
theorem Ints.empty (w : World) (a : Option Addr) {cap : Nat} (h : cap ≤ maxLen) : Ints w a 0 cap [] := ⟨by simp, Nat.zero_le _, h, fun h => absurd h (by omega)⟩

theorem Own.length {w : World} {base : Nat} {e : TypeId} {size : Nat} {a : Option Addr} {n cap : Nat} {vs : List Value} (h : Own w base e size a n cap vs) : vs.length = n * size := h.1
theorem Own.form {w : World} {base : Nat} {e : TypeId} {size : Nat} {a : Option Addr} {n cap : Nat} {vs : List Value} (h : Own w base e size a n cap vs) :
    (a = none ∧ n = 0 ∧ cap = 0) ∨ ∃ g, a = some ⟨g, 0, none⟩ ∧ base ≤ g ∧ g < w.heap.size := by
  rcases h.2 with ⟨h1, h2⟩ | ⟨g, cap', cur, h1, hb, hg, _⟩
  · simp only [Value.slice.injEq] at h1
    exact .inl ⟨h1.1, h2, h1.2.2⟩
  · simp only [Value.slice.injEq] at h1
    refine .inr ⟨g, h1.1, hb, ?_⟩
    rcases Nat.lt_or_ge g w.heap.size with hlt | hge
    · exact hlt
    · rw [Array.getElem?_eq_none hge] at hg; cases hg

theorem Own.toCells {w : World} {base : Nat} {e : TypeId} {size : Nat} {a : Option Addr} {n cap : Nat} {vs : List Value} (h : Own w base e size a n cap vs) : Cells w size a n cap vs := by
  rcases h.2 with ⟨h1, h2⟩ | ⟨g, cap', cur, h1, hb, hg, hle, hm, hs, htk⟩
  · simp only [Value.slice.injEq] at h1
    obtain ⟨rfl, rfl, rfl⟩ := h1
    exact ⟨h.1, Nat.le_refl _, by unfold maxLen; omega, fun h => absurd h (by omega)⟩
  · simp only [Value.slice.injEq, true_and] at h1
    obtain ⟨rfl, rfl⟩ := h1
    refine ⟨h.1, hle, hm, fun _ => ⟨g, 0, rfl, fun j u hu => ?_⟩⟩
    have := World.ownsRow.cellAt (g := g) h j (by have := List.getElem?_eq_some_iff.1 hu; obtain ⟨hlt, _⟩ := this; rw [h.1] at hlt; exact hlt)
    rw [Nat.zero_add, this, hu]

/-- The blocks that the call at whose start the heap had 'base' blocks has made are its own still, whatever a later call makes. -/
theorem Own.below {w w' : World} {base : Nat} {e : TypeId} {size : Nat} {a : Option Addr} {n cap : Nat} {vs : List Value} (h : Own w base e size a n cap vs) (hb : Below w.heap.size w w') : Own w' base e size a n cap vs := by
  refine ⟨h.1, ?_⟩
  rcases h.2 with h1 | ⟨g, cap', cur, h1, hbs, hg, r⟩
  · exact .inl h1
  · refine .inr ⟨g, cap', cur, h1, hbs, ?_, r⟩
    rw [hb.block g ?_]
    · exact hg
    · rcases Nat.lt_or_ge g w.heap.size with hlt | hge
      · exact hlt
      · rw [Array.getElem?_eq_none hge] at hg; cases hg
theorem Own.mono {w : World} {base base' : Nat} {e : TypeId} {size : Nat} {a : Option Addr} {n cap : Nat} {vs : List Value} (h : Own w base e size a n cap vs) (hb : base' ≤ base) : Own w base' e size a n cap vs := by
  refine ⟨h.1, ?_⟩
  rcases h.2 with h1 | ⟨g, cap', cur, h1, hbs, r⟩
  · exact .inl h1
  · exact .inr ⟨g, cap', cur, h1, Nat.le_trans hb hbs, r⟩
theorem Own.kept {w w' : World} {base : Nat} {e : TypeId} {size : Nat} {a : Option Addr} {n cap : Nat} {vs : List Value} {row : Option Nat} (h : Own w base e size a n cap vs) (hg : w.grownBy w' row) (hne : ∀ x, a = some x → some x.block ≠ row) : Own w' base e size a n cap vs := by
  refine World.ownsRow.kept h hg ?_
  cases a with
  | none => exact .inl rfl
  | some x => exact .inr (hne x rfl)

/-- The call's own ints. -/
def OwnI (w : World) (base : Nat) (a : Option Addr) (n cap : Nat) (xs : List Int) : Prop := Own w base 3 1 a n cap (xs.map (Value.int .i64))
theorem OwnI.ints {w : World} {base : Nat} {a : Option Addr} {n cap : Nat} {xs : List Int} (h : OwnI w base a n cap xs) : Ints w a n cap xs := Own.toCells h
theorem OwnI.below {w w' : World} {base : Nat} {a : Option Addr} {n cap : Nat} {xs : List Int} (h : OwnI w base a n cap xs) (hb : Below w.heap.size w w') : OwnI w' base a n cap xs := Own.below h hb
theorem OwnI.mono {w : World} {base base' : Nat} {a : Option Addr} {n cap : Nat} {xs : List Int} (h : OwnI w base a n cap xs) (hb : base' ≤ base) : OwnI w base' a n cap xs := Own.mono h hb
theorem OwnI.length {w : World} {base : Nat} {a : Option Addr} {n cap : Nat} {xs : List Int} (h : OwnI w base a n cap xs) : xs.length = n := h.ints.length
theorem OwnI.cell {w : World} {base g n cap : Nat} {xs : List Int} (h : OwnI w base (some ⟨g, 0, none⟩) n cap xs) {j : Nat} (hj : j < n) : w.cell? ⟨g, j, none⟩ = some (.int .i64 (xs[j]?.getD 0)) := by
  rw [World.ownsRow.cellAt h j (by omega), List.getElem?_map, List.getElem?_eq_getElem (by have := h.length; omega)]
  rfl
theorem OwnI.frozen {w : World} {base g n cap : Nat} {xs : List Int} (h : OwnI w base (some ⟨g, 0, none⟩) n cap xs) (j : Nat) : w.frozen? ⟨g, j, none⟩ = false := World.ownsRow.frozenAt h j
theorem OwnI.stored {w : World} {base g n cap : Nat} {xs : List Int} (h : OwnI w base (some ⟨g, 0, none⟩) n cap xs) (j : Nat) (y : Int) :
    OwnI (w.setCell ⟨g, j, none⟩ (.int .i64 y)) base (some ⟨g, 0, none⟩) n cap (xs.set j y) := by
  have := (World.ownsRow.stored h j (.int .i64 y)).1
  unfold OwnI Own
  rw [List.map_set]
  exact this

/-- What a call returns that hands back a slice of ints of its own and turns nothing that was there. -/
def RInts (w : World) (xs : List Int) (e : Ending) (w' : World) : Prop := ∃ a n cap, e = .returned (.slice a n cap) ∧ OwnI w' w.heap.size a n cap xs ∧ Below w.heap.size w w'
def RIntsB (w : World) (xs : List Int) (b : Bool) (e : Ending) (w' : World) : Prop := ∃ a n cap, e = .returned (.tuple #[.slice a n cap, .bool b]) ∧ OwnI w' w.heap.size a n cap xs ∧ Below w.heap.size w w'
def RVal (w : World) (v : Value) (e : Ending) (w' : World) : Prop := e = .returned v ∧ Below w.heap.size w w'

theorem World.cell_setCell_ne (w : World) (p q : Addr) (u : Value) (h : q.block ≠ p.block) : (w.setCell p u).cell? q = w.cell? q :=
  World.cell?_of_block (Below.heap_setCell w p u q.block h)

/-- The facts on a slice type and its elements' type that make and append ask. -/
structure ElemTy (P : Program) (t e : TypeId) (size bytes : Nat) (z : Value) : Prop where
  und : P.underlying t = some (.slice e)
  info : ∃ i, P.info? e = some i ∧ i.zero = some z ∧ i.size = size ∧ i.bytes = bytes
  cells : z.cells.size = size
  pos : 0 < size

theorem wpList_make {P : Program} {t e : TypeId} {size bytes : Nat} {z : Value} (T : ElemTy P t e size bytes z) {w : World} {ops : Array Oper} {rest : List Oper} {o : Oper} {a : Act} {Q : Exit → Act → World → Prop}
    (hg : o.guard = none) (l c : Operand) (hop : o.op = Op.makeSlice t l c) (base : Nat) (L C : Int) (n : Nat) (hl : a.eval l = .int .i64 L) (hc : a.eval c = .int .i64 C) (hL : L = (n : Int)) (hC : C = (n : Int))
    (b2 : bytes * n ≤ 281474976710656) (b3 : n ≤ maxLen) (b4 : base ≤ w.heap.size)
    (hK : ∀ w', Own w' base e size (some ⟨w.heap.size, 0, none⟩) n n (madeCells z.cells (n * size)).toList → w.grownBy w' none → wpList P ops Q rest (a.put o.dst (.slice (some ⟨w.heap.size, 0, none⟩) n n)) w') :
    wpList P ops Q (o :: rest) a w := by
  obtain ⟨i, hi, hz, hs, hb⟩ := T.info
  exact wpList_make_full w hg l c t hop base e i z size T.und hi hz hs .i64 .i64 L C n hl hc hL hC (by rw [hb]; exact b2) b3 b4 hK

/-- make([]int, n). -/
theorem wpList_make_ints {P : Program} {t : TypeId} (T : ElemTy P t 3 1 8 (.int .i64 0)) {w : World} {ops : Array Oper} {rest : List Oper} {o : Oper} {a : Act} {Q : Exit → Act → World → Prop}
    (hg : o.guard = none) (l c : Operand) (hop : o.op = Op.makeSlice t l c) (base : Nat) (L C : Int) (n : Nat) (hl : a.eval l = .int .i64 L) (hc : a.eval c = .int .i64 C) (hL : L = (n : Int)) (hC : C = (n : Int))
    (b2 : n ≤ 2000000) (b4 : base ≤ w.heap.size)
    (hK : ∀ w', OwnI w' base (some ⟨w.heap.size, 0, none⟩) n n (List.replicate n 0) → w.grownBy w' none → wpList P ops Q rest (a.put o.dst (.slice (some ⟨w.heap.size, 0, none⟩) n n)) w') :
    wpList P ops Q (o :: rest) a w := by
  refine wpList_make T hg l c hop base L C n hl hc hL hC (by omega) (by unfold maxLen; omega) b4 fun w' h1 h2 => hK w' ?_ h2
  unfold OwnI
  rw [List.map_replicate]
  have h3 := h1
  rw [show (Value.int IntKind.i64 0).cells = #[Value.int .i64 0] from rfl, Nat.mul_one, toList_madeCells_one] at h3
  exact h3

/-- append(s, x...): s a slice of the call's own, x whatever slice whose cells are known. -/
theorem run_append_cells {P : Program} {t e : TypeId} {size bytes : Nat} {z : Value} (T : ElemTy P t e size bytes z) (w : World) (ty : TypeId) (base : Nat)
    (A : Option Addr) (n cap : Nat) (vs : List Value) (hown : Own w base e size A n cap vs) (X : Option Addr) (m c : Nat) (news : List Value) (hx : Cells w size X m c news) (h1 : ∀ u ∈ news, u.oneCell' = true)
    (h63 : n + m ≤ 9223372036854775807) (hbytes : (n + m) * bytes ≤ 140737488355328) (hbase : base ≤ w.heap.size) :
    ∃ A' cap' w', (Builtin.append_ #[t, t] ty #[.slice A n cap, .slice X m c]).run P w = .ok (.slice A' (n + m) cap') w' ∧ Own w' base e size A' (n + m) cap' (vs ++ news) ∧ w.grownBy w' (A.map (·.block)) ∧
      (A' = A ∨ A' = some ⟨w.heap.size, 0, none⟩) := by
  obtain ⟨i, hi, hz, hs, hb⟩ := T.info
  have hob : (Value.slice A n cap).ownBlock = A.map (·.block) := by cases A <;> rfl
  have fin : ∀ (v' : Value) (w' : World), w'.ownsRow base e size v' (n + m) (vs ++ news) → (v'.ownBlock = (Value.slice A n cap).ownBlock ∨ v'.ownBlock = some w.heap.size) → (v' = .slice none 0 0 → A = none) →
      ∃ A' cap', v' = .slice A' (n + m) cap' ∧ (A' = A ∨ A' = some ⟨w.heap.size, 0, none⟩) := by
    intro v' w' ho hor hnil
    rcases ho.2 with ⟨h1, h2⟩ | ⟨g, cap', cur, h1, _⟩
    · refine ⟨none, 0, by rw [h1, h2], .inl (hnil h1).symm⟩
    · subst h1
      refine ⟨_, cap', rfl, ?_⟩
      rcases hor with hor | hor
      · left
        rw [hob] at hor
        rcases hown.form with ⟨rfl, _⟩ | ⟨g', rfl, _⟩
        · simp [Value.ownBlock] at hor
        · simp only [Value.ownBlock, Option.map_some, Option.some.injEq] at hor
          rw [hor]
      · right
        simp only [Value.ownBlock, Option.some.injEq] at hor
        rw [hor]
  rcases X with _ | ad
  · have hm : m = 0 := by
      rcases Nat.eq_zero_or_pos m with h0 | h0
      · exact h0
      · obtain ⟨_, _, h, _⟩ := hx.at_ h0
        cases h
    subst hm
    have hn : news = [] := List.eq_nil_of_length_eq_zero (by simpa using hx.len)
    subst hn
    refine ⟨A, cap, w, ?_, by simpa using hown, World.grownBy.refl w _, .inl rfl⟩
    rcases hown.2 with ⟨h1, h2⟩ | ⟨g, cap', cur, h1, _, _, hnc, _⟩
    · simp only [Value.slice.injEq] at h1
      obtain ⟨rfl, rfl, rfl⟩ := h1
      simp [Builtin.append_, run_underlying T.und, sizeOf, typeInfo, hi, Builtin.lenOf, Builtin.firstCells]
    · simp only [Value.slice.injEq, true_and] at h1
      obtain ⟨rfl, rfl⟩ := h1
      simp [Builtin.append_, run_underlying T.und, sizeOf, typeInfo, hi, Builtin.lenOf, Builtin.firstCells, hnc, storeCells]
  · have hcells : ∀ j u, news[j]? = some u → w.cell? (ad.add j) = some u := by
      intro j u hu
      rcases Nat.eq_zero_or_pos m with h0 | h0
      · subst h0
        have hn : news = [] := List.eq_nil_of_length_eq_zero (by simpa using hx.len)
        subst hn
        simp at hu
      · obtain ⟨b, off, h, hc⟩ := hx.at_ h0
        injection h with h
        subst h
        have := hc j u hu
        unfold Addr.add
        by_cases hj : j = 0
        · subst hj; simpa using this
        · rw [if_neg hj]; exact this
    obtain ⟨v', w', hrun, h2, h3, h4, h5⟩ := run_append_own_at (P := P) w base t ty e i z size bytes T.und hi hz hs hb T.cells T.pos (.slice A n cap) n vs hown ad m c news hx.len hcells h1 (by unfold maxLen; omega) hbytes hbase
    obtain ⟨A', cap', rfl, h6⟩ := fin v' w' h2 h5 (fun e => by
      have := (h4.1 e).1
      simp only [Value.slice.injEq] at this
      exact this.1)
    rw [hob] at h3
    exact ⟨A', cap', w', hrun, h2, h3, h6⟩

theorem wp_append_cells {P : Program} {t e : TypeId} {size bytes : Nat} {z : Value} (T : ElemTy P t e size bytes z) {w : World} {o : Oper} {a : Act} {K : Act → World → Prop} {Q : Exit → Act → World → Prop} (s x : Operand)
    (ho : o.op = .call { callee := .builtin .append, args := #[s, x], argTypes := #[t, t] }) (base : Nat)
    (A : Option Addr) (n cap : Nat) (vs : List Value) (hs : a.eval s = .slice A n cap) (hown : Own w base e size A n cap vs) (X : Option Addr) (m c : Nat) (news : List Value) (hxv : a.eval x = .slice X m c) (hx : Cells w size X m c news) (h1 : ∀ u ∈ news, u.oneCell' = true)
    (h63 : n + m ≤ 9223372036854775807) (hbytes : (n + m) * bytes ≤ 140737488355328) (hbase : base ≤ w.heap.size)
    (h : ∀ A' cap' w', Own w' base e size A' (n + m) cap' (vs ++ news) → w.grownBy w' (A.map (·.block)) → (A' = A ∨ A' = some ⟨w.heap.size, 0, none⟩) → K (a.put o.dst (.slice A' (n + m) cap')) w') : o.wp P a w K Q := by
  obtain ⟨A', cap', w', hrun, h2, h3, h4⟩ := run_append_cells T w o.type base A n cap vs hown X m c news hx h1 h63 hbytes hbase
  unfold Oper.wp execOp
  simp only [ho, resolve, invoke, builtin, Sem.run_bind, Sem.run_pure, Result.andThen_ok, List.map_toArray, List.map_cons, List.map_nil, hs, hxv, hrun]
  exact h A' cap' w' h2 h3 h4

theorem wpList_append_cells {P : Program} {t e : TypeId} {size bytes : Nat} {z : Value} (T : ElemTy P t e size bytes z) {w : World} {ops : Array Oper} {rest : List Oper} {o : Oper} {a : Act} {Q : Exit → Act → World → Prop} (hgd : o.guard = none) (s x : Operand)
    (ho : o.op = .call { callee := .builtin .append, args := #[s, x], argTypes := #[t, t] }) (base : Nat)
    (A : Option Addr) (n cap : Nat) (vs : List Value) (hs : a.eval s = .slice A n cap) (hown : Own w base e size A n cap vs) (X : Option Addr) (m c : Nat) (news : List Value) (hxv : a.eval x = .slice X m c) (hx : Cells w size X m c news) (h1 : ∀ u ∈ news, u.oneCell' = true)
    (h63 : n + m ≤ 9223372036854775807) (hbytes : (n + m) * bytes ≤ 140737488355328) (hbase : base ≤ w.heap.size)
    (h : ∀ A' cap' w', Own w' base e size A' (n + m) cap' (vs ++ news) → w.grownBy w' (A.map (·.block)) → (A' = A ∨ A' = some ⟨w.heap.size, 0, none⟩) → wpList P ops Q rest (a.put o.dst (.slice A' (n + m) cap')) w') : wpList P ops Q (o :: rest) a w :=
  wpList_plain hgd fun _ hK => wp_append_cells T s x ho base A n cap vs hs hown X m c news hxv hx h1 h63 hbytes hbase fun A' cap' w' h2 h3 h4 => hK _ _ (h A' cap' w' h2 h3 h4)

theorem oneCell_ints (xs : List Int) : ∀ u ∈ xs.map (Value.int .i64), u.oneCell' = true := by
  intro u hu
  obtain ⟨x, _, rfl⟩ := List.mem_map.1 hu
  rfl

/-- append(s, x...) at ints. -/
theorem wpList_append_ints {P : Program} {t : TypeId} (T : ElemTy P t 3 1 8 (.int .i64 0)) {w : World} {ops : Array Oper} {rest : List Oper} {o : Oper} {a : Act} {Q : Exit → Act → World → Prop} (hgd : o.guard = none) (s x : Operand)
    (ho : o.op = .call { callee := .builtin .append, args := #[s, x], argTypes := #[t, t] }) (base : Nat)
    (A : Option Addr) (n cap : Nat) (xs : List Int) (hs : a.eval s = .slice A n cap) (hown : OwnI w base A n cap xs) (X : Option Addr) (m c : Nat) (ys : List Int) (hxv : a.eval x = .slice X m c) (hx : Ints w X m c ys)
    (hn : n + m ≤ 4000000) (hbase : base ≤ w.heap.size)
    (h : ∀ A' cap' w', OwnI w' base A' (n + m) cap' (xs ++ ys) → w.grownBy w' (A.map (·.block)) → (A' = A ∨ A' = some ⟨w.heap.size, 0, none⟩) → wpList P ops Q rest (a.put o.dst (.slice A' (n + m) cap')) w') : wpList P ops Q (o :: rest) a w :=
  wpList_append_cells T hgd s x ho base A n cap _ hs hown X m c _ hxv hx (oneCell_ints ys) (by omega) (by omega) hbase fun A' cap' w' h2 h3 h4 => h A' cap' w' (by
    unfold OwnI; rw [List.map_append]; exact h2) h3 h4

/-- append(s, y): the one element lies in a block of its own. -/
theorem wpList_append_int {P : Program} {t : TypeId} (T : ElemTy P t 3 1 8 (.int .i64 0)) {w : World} {ops : Array Oper} {rest : List Oper} {o : Oper} {a : Act} {Q : Exit → Act → World → Prop} (hgd : o.guard = none) (s x : Operand)
    (ho : o.op = .call { callee := .builtin .append, args := #[s, x], argTypes := #[t, t] }) (base : Nat)
    (A : Option Addr) (n cap : Nat) (xs : List Int) (hs : a.eval s = .slice A n cap) (hown : OwnI w base A n cap xs) (g : Nat) (y : Int) (hxv : a.eval x = .slice (some ⟨g, 0, none⟩) 1 1) (hx : w.cell? ⟨g, 0, none⟩ = some (.int .i64 y))
    (hn : n ≤ 4000000) (hbase : base ≤ w.heap.size)
    (h : ∀ A' cap' w', OwnI w' base A' (n + 1) cap' (xs ++ [y]) → w.grownBy w' (A.map (·.block)) → (A' = A ∨ A' = some ⟨w.heap.size, 0, none⟩) → wpList P ops Q rest (a.put o.dst (.slice A' (n + 1) cap')) w') : wpList P ops Q (o :: rest) a w :=
  wpList_append_cells T hgd s x ho base A n cap _ hs hown (some ⟨g, 0, none⟩) 1 1 [.int .i64 y] hxv
    ⟨rfl, Nat.le_refl _, by unfold maxLen; omega, fun _ => ⟨g, 0, rfl, fun j u hu => by
      cases j with
      | zero => simp at hu; subst hu; exact hx
      | succ j => simp at hu⟩⟩ (by simp [Value.oneCell']) (by omega) (by omega) hbase fun A' cap' w' h2 h3 h4 => h A' cap' w' (by
    unfold OwnI; rw [List.map_append]; exact h2) h3 h4

theorem below_drewN {B : Nat} {a w : World} (h : Below B a w) (n : Nat) : Below B a (w.drewN n) := ⟨h.os, h.tape, h.output, h.size, h.block⟩
/-- 'Below' behind a callee that turns nothing that was there. -/
theorem Below.call {B : Nat} {a w w' : World} (h : Below B a w) (hB : B ≤ w.heap.size) (hb : Below w.heap.size w w') : Below B a w' := h.trans (hb.mono hB)

end Go.Proofs.Ytahbflbhkalehaa
