/-
  A slice of the call's own that need not begin at its block's head, with room behind it. No program in sight.
-/
import Derived.Test.YtahbflbhkalehaaDraw2
import Derived.ArgAppend
namespace Go.Proofs.Ytahbflbhkalehaa
open Go.RowKit

/-- The slice lies in a block of the call's own, and all of its room may be written. -/
structure OwnX (w : World) (base g off n cap : Nat) (xs : List Int) : Prop where
  ge : base ≤ g
  ints : Ints w (some ⟨g, off, none⟩) n cap xs
  room : ∀ j, j < cap → (w.cell? ⟨g, off + j, none⟩).isSome = true ∧ w.frozen? ⟨g, off + j, none⟩ = false
theorem OwnX.of_own {w : World} {base g n cap : Nat} {xs : List Int} (h : OwnI w base (some ⟨g, 0, none⟩) n cap xs) : OwnX w base g 0 n cap xs := by
  refine ⟨h.base_le _ rfl, h.ints, fun j hj => ?_⟩
  rw [Nat.zero_add]
  refine ⟨?_, h.frozen j⟩
  rcases h.2 with ⟨h1, _⟩ | ⟨g', cap', cur, h1, _, hg, _, _, hs, _⟩
  · cases h1
  · simp only [Value.slice.injEq, Option.some.injEq, Addr.mk.injEq, and_true, true_and] at h1
    obtain ⟨rfl, rfl⟩ := h1
    simp only [World.cell?, hg]
    simp
    omega
theorem OwnX.lt {w : World} {base g off n cap : Nat} {xs : List Int} (h : OwnX w base g off n cap xs) (hc : 0 < cap) : g < w.heap.size := by
  have := (h.room 0 hc).1
  obtain ⟨u, hu⟩ := Option.isSome_iff_exists.1 this
  exact World.block_lt_of_cell? _ _ hu
theorem OwnX.same {w w' : World} {base g off n cap : Nat} {xs : List Int} (h : OwnX w base g off n cap xs) (hb : w'.heap[g]? = w.heap[g]?) : OwnX w' base g off n cap xs := by
  refine ⟨h.ge, ⟨h.ints.len, h.ints.le, h.ints.max, fun hn => ?_⟩, fun j hj => ?_⟩
  · obtain ⟨b, o, e, hc⟩ := Cells.at_ h.ints hn
    cases e
    exact ⟨g, off, rfl, fun j u hu => (World.cell?_of_block (a := ⟨g, off + j, none⟩) hb).trans (hc j u hu)⟩
  · rw [World.cell?_of_block (a := ⟨g, off + j, none⟩) hb, World.frozen?_of_block (a := ⟨g, off + j, none⟩) hb]
    exact h.room j hj
theorem OwnX.below {w w' : World} {base g off n cap : Nat} {xs : List Int} (h : OwnX w base g off n cap xs) (hc : 0 < cap) (hb : Below w.heap.size w w') : OwnX w' base g off n cap xs :=
  h.same (hb.block g (h.lt hc))
theorem OwnX.asked {w w' : World} {g0 base g off n cap : Nat} {xs : List Int} (h : OwnX w base g off n cap xs) (hc : 0 < cap) (hg : w.grownBy w' (some g0)) (hb : g0 < base) : OwnX w' base g off n cap xs :=
  h.same (hg.5 g (h.lt hc) (by have := h.ge; intro e; injection e with e; omega))
theorem OwnX.cell {w : World} {base g off n cap : Nat} {xs : List Int} (h : OwnX w base g off n cap xs) {j : Nat} (hj : j < n) : w.cell? ⟨g, off + j, none⟩ = some (.int .i64 (xs[j]?.getD 0)) := by
  obtain ⟨b, o, e, hc⟩ := h.ints.cells (by omega)
  cases e
  exact hc j hj
theorem OwnX.stored {w : World} {base g off n cap : Nat} {xs : List Int} (h : OwnX w base g off n cap xs) (k : Nat) (y : Int) : OwnX (w.setCell ⟨g, off + k, none⟩ (.int .i64 y)) base g off n cap (xs.set k y) := by
  have hl := h.ints.length
  refine ⟨h.ge, Ints.mk' (by simpa using hl) h.ints.le h.ints.max fun i hi => ?_, fun j hj => ⟨?_, by rw [World.frozen?_setCell]; exact (h.room j hj).2⟩⟩
  · by_cases hk : i = k
    · subst hk
      rw [World.cell?_setCell_same' _ _ _ (by rw [h.cell hi]; rfl), List.getElem?_set, if_pos rfl, if_pos (by omega)]
      rfl
    · rw [World.cell?_setCell_other _ _ _ _ (by intro e; injection e with _ e2 _; omega), List.getElem?_set, if_neg (by omega)]
      exact h.cell hi
  · by_cases hk : j = k
    · subst hk
      rw [World.cell?_setCell_same' _ _ _ (h.room j hj).1]
      rfl
    · rw [World.cell?_setCell_other _ _ _ _ (by intro e; injection e with _ e2 _; omega)]
      exact (h.room j hj).1
theorem OwnX.cut {w : World} {base g off n cap : Nat} {xs : List Int} (h : OwnX w base g off n cap xs) {k : Nat} (hk : k ≤ n) (hc : k < cap) : OwnX w base g (off + k) (n - k) (cap - k) (xs.drop k) := by
  refine ⟨h.ge, ?_, fun j hj => ?_⟩
  · have q := h.ints.cut' (k := k) hk hc
    rwa [Option.map_some, add_addr] at q
  · rw [Nat.add_assoc]; exact h.room (k + j) (by omega)
theorem OwnX.own_cap {w : World} {base g off n cap : Nat} {xs : List Int} (h : OwnX w base g off n cap xs) : n ≤ cap ∧ cap ≤ 9223372036854775807 := ⟨h.ints.le_cap, h.ints.cap_max⟩

/-- append(s, y), inside a region that draws its order. -/
theorem step_append_x {P : Program} {t : TypeId} (T : ElemTy P t 3 1 8 (.int .i64 0)) {w : World} {ops : Array Oper} {o : Oper} {a : Act} {K : Act → World → Prop} {Q : Exit → Act → World → Prop} {E : Prop} (hgd : o.guard = none) (s x : Operand)
    (ho : o.op = .call { callee := .builtin .append, args := #[s, x], argTypes := #[t, t] }) (base : Nat)
    (g off n cap : Nat) (xs : List Int) (hs : a.eval s = .slice (some ⟨g, off, none⟩) n cap) (hown : OwnX w base g off n cap xs) (gx : Nat) (y : Int) (hxv : a.eval x = .slice (some ⟨gx, 0, none⟩) 1 1)
    (hx : w.cell? ⟨gx, 0, none⟩ = some (.int .i64 y)) (hn : n ≤ 4000000) (hbase : base ≤ w.heap.size)
    (h : ∀ g' off' cap' w', OwnX w' base g' off' (n + 1) cap' (xs ++ [y]) → w.grownBy w' (some g) → K (a.put o.dst (.slice (some ⟨g', off', none⟩) (n + 1) cap')) w') :
    if Region.wanted o (yielded ops a.tmps) = true then Oper.wp P o a w K Q else E := by
  rw [if_pos (by simp [Region.wanted, hgd])]
  obtain ⟨i, hi, hz, hsz, hb⟩ := T.info
  have hl := hown.ints.length
  have hc1 : ∀ j u, [Value.int .i64 y][j]? = some u → w.cell? ((⟨gx, 0, none⟩ : Addr).add j) = some u := fun j u hu => by
    have hj : j = 0 := by have := (List.getElem?_eq_some_iff.1 hu).1; simpa using this
    subst hj
    rw [add_addr]
    simp only [List.getElem?_cons_zero, Option.some.injEq] at hu
    rw [← hu]
    exact hx
  have hone : ∀ u ∈ [Value.int .i64 y], u.oneCell' = true := fun u hu => by rw [List.mem_singleton] at hu; subst hu; rfl
  by_cases hr : n + 1 ≤ cap
  · have hrun := run_append_room_cells (P := P) w t o.type 3 i T.und hi g off n cap ⟨gx, 0, none⟩ 1 1 [.int .i64 y] (by rw [hsz]; rfl) hc1 hone hr
      (fun j hj => by have hj0 : j = 0 := by simpa using hj
                      subst hj0; rw [hsz, Nat.mul_one, Nat.add_zero]; exact (hown.room n (by omega)).1)
      (fun j hj => by have hj0 : j = 0 := by simpa using hj
                      subst hj0; rw [hsz, Nat.mul_one, Nat.add_zero]; exact (hown.room n (by omega)).2)
    unfold Oper.wp
    simp [execOp, ho, resolve, invoke, builtin, hs, hxv, hrun, Result.andThen]
    rw [hsz, Nat.mul_one]
    refine h g off cap _ ⟨hown.ge, Ints.mk' (by simp [hl]) hr hown.ints.max fun k hk => ?_, fun j hj => ⟨?_, by rw [World.frozen?_setCells]; exact (hown.room j hj).2⟩⟩ ?_
    · by_cases hkn : k = n
      · subst hkn
        have := World.cell?_setCells_in g [Value.int .i64 y] (off + k) w (fun j hj => by have hj0 : j = 0 := by simpa using hj
                                                                                         subst hj0; exact (hown.room k (by omega)).1) 0 (by simp)
        rw [Nat.add_zero] at this
        rw [this, List.getElem?_append_right (by omega), hl, Nat.sub_self]
        rfl
      · rw [World.cell?_setCells_out _ _ _ _ _ (fun _ _ => by simp; omega), List.getElem?_append_left (by omega)]
        exact hown.cell (by omega)
    · by_cases hkn : j = n
      · subst hkn
        have := World.cell?_setCells_in g [Value.int .i64 y] (off + j) w (fun j' hj' => by have hj0 : j' = 0 := by simpa using hj'
                                                                                           subst hj0; exact (hown.room j (by omega)).1) 0 (by simp)
        rw [Nat.add_zero] at this
        rw [this]
        rfl
      · rw [World.cell?_setCells_out _ _ _ _ _ (fun _ _ => by simp; omega)]
        exact (hown.room j hj).1
    · exact grown_setCell w g (off + n) (.int .i64 y)
  · obtain ⟨v', w', hrun, r1, r2⟩ := run_append_arg_grows (P := P) w t o.type 3 i (.int .i64 0) 1 8 T.und hi hz hsz hb T.cells T.pos ⟨g, off, none⟩ n cap (xs.map (Value.int .i64)) (by simp [hl])
      (fun j u hj => by
        rw [add_addr]
        rw [List.getElem?_map] at hj
        have hlt : j < n := by
          cases hq : xs[j]? with
          | none => rw [hq] at hj; cases hj
          | some z => have := (List.getElem?_eq_some_iff.1 hq).1; omega
        rw [hown.cell hlt]
        rw [List.getElem?_eq_getElem (by omega)] at hj ⊢
        simpa using hj)
      ⟨gx, 0, none⟩ 1 1 [.int .i64 y] rfl hc1 (by omega) (by unfold maxLen; omega) (by omega)
    have r1' : ∃ A c, v' = .slice A (n + 1) c ∧ OwnI w' w.heap.size A (n + 1) c (xs ++ [y]) := by
      rcases r1.2 with ⟨_, h0⟩ | ⟨g', c', cur, e, q⟩
      · omega
      · exact ⟨_, c', e, by
          unfold OwnI Own
          rw [List.map_append, ← e]
          exact r1⟩
    obtain ⟨A, c, rfl, ho'⟩ := r1'
    rcases Own.form ho' with ⟨_, h0, _⟩ | ⟨g', rfl, hg', _⟩
    · omega
    · unfold Oper.wp
      simp [execOp, ho, resolve, invoke, builtin, hs, hxv, hrun, Result.andThen]
      exact h g' 0 c w' (OwnX.of_own (ho'.mono hbase)) ⟨r2.1, r2.2, r2.3, r2.4, fun k hk hne => r2.5 k hk (by simp)⟩

end Go.Proofs.Ytahbflbhkalehaa
