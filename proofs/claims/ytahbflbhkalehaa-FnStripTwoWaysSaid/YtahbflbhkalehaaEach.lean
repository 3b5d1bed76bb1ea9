/-
  What the program's eachOrder calls its visitor with: the orders of numbers, one after the other, as long as it returns true.
-/
import Derived.Test.YtahbflbhkalehaaAll
import Derived.Test.YtahbflbhkalehaaMemX
import Derived.Test.YtahbflbhkalehaaRange
import Derived.Deep.LoopGhost
namespace Go.Proofs.Ytahbflbhkalehaa
open Go.RowKit

/-- Visits, as long as each returns true. -/
def runV {S : Type} (g : S → List Int → S × Bool) : S → List (List Int) → S × Bool
  | st, [] => (st, true)
  | st, x :: r => if (g st x).2 = true then runV g (g st x).1 r else ((g st x).1, false)
theorem runV_cons {S : Type} (g : S → List Int → S × Bool) (st : S) (x : List Int) (r : List (List Int)) : runV g st (x :: r) = if (g st x).2 = true then runV g (g st x).1 r else ((g st x).1, false) := rfl
theorem runV_one {S : Type} (g : S → List Int → S × Bool) (st : S) (x : List Int) : runV g st [x] = g st x := by
  unfold runV
  cases h : (g st x).2 with
  | true => rw [if_pos rfl]; unfold runV; rw [← h]
  | false => rw [if_neg (by decide), ← h]
theorem runV_yes {S : Type} {g : S → List Int → S × Bool} : ∀ {l1 l2 : List (List Int)} {st : S}, (runV g st l1).2 = true → runV g st (l1 ++ l2) = runV g (runV g st l1).1 l2 := by
  intro l1
  induction l1 with
  | nil => intro l2 st _; rfl
  | cons x r ih =>
    intro l2 st h
    rw [List.cons_append]
    rw [runV_cons] at h
    rw [runV_cons]
    by_cases hx : (g st x).2 = true
    · rw [if_pos hx] at h
      rw [if_pos hx]
      try rw [runV_cons, if_pos hx]
      exact ih h
    · rw [if_neg hx] at h; cases h
theorem runV_no {S : Type} {g : S → List Int → S × Bool} : ∀ {l1 l2 : List (List Int)} {st : S}, (runV g st l1).2 = false → runV g st (l1 ++ l2) = runV g st l1 := by
  intro l1
  induction l1 with
  | nil => intro l2 st h; cases h
  | cons x r ih =>
    intro l2 st h
    rw [List.cons_append]
    rw [runV_cons] at h
    rw [runV_cons]
    by_cases hx : (g st x).2 = true
    · rw [if_pos hx] at h
      rw [if_pos hx]
      try rw [runV_cons, if_pos hx]
      exact ih h
    · rw [if_neg hx, runV_cons, if_neg hx]
theorem runV_live {S : Type} {g : S → List Int → S × Bool} {live : S → Prop} (hlive : ∀ st ys, live st → (g st ys).2 = true → live (g st ys).1) : ∀ {l : List (List Int)} {st : S}, live st → (runV g st l).2 = true → live (runV g st l).1 := by
  intro l
  induction l with
  | nil => intro st h _; exact h
  | cons x r ih =>
    intro st h h2
    rw [runV_cons] at h2 ⊢
    by_cases hx : (g st x).2 = true
    · rw [if_pos hx] at h2 ⊢
      exact ih (hlive st x h hx) h2
    · rw [if_neg hx] at h2; cases h2
theorem partL_pre (n f : Nat) (b : List Int) (k : Nat) : ∀ j : Nat, ∃ r, partL n f b (k + j) = partL n f b k ++ r := by
  intro j
  induction j with
  | zero => exact ⟨[], by simp⟩
  | succ j ih =>
    obtain ⟨r, hr⟩ := ih
    rw [← Nat.add_assoc]
    by_cases hin : ((k + j : Nat) : Int) ∈ b
    · rw [partL_yes hin]; exact ⟨r, hr⟩
    · rw [partL_no hin, hr, List.append_assoc]; exact ⟨_, rfl⟩
theorem partL_all (n f : Nat) (b : List Int) {k : Nat} (hk : k ≤ n) : ∃ r, allL n (f + 1) b = partL n f b k ++ r := by
  obtain ⟨r, hr⟩ := partL_pre n f b k (n - k)
  rw [show k + (n - k) = n by omega] at hr
  exact ⟨r, hr⟩

/-- An order as far as it is laid, in a block with room for n numbers. -/
structure Ord (w : World) (Bo n : Nat) (b : List Int) : Prop where
  len : b.length ≤ n
  cell : ∀ j, j < b.length → w.cell? ⟨Bo, j, none⟩ = some (.int .i64 (b[j]?.getD 0))
  room : ∀ j, j < n → (w.cell? ⟨Bo, j, none⟩).isSome = true ∧ w.frozen? ⟨Bo, j, none⟩ = false
/-- The marks of the numbers that are used. -/
structure Used (w : World) (Bu n : Nat) (b : List Int) : Prop where
  cell : ∀ j, j < n → w.cell? ⟨Bu, j, none⟩ = some (.bool (decide ((j : Int) ∈ b)))
  free : ∀ j, j < n → w.frozen? ⟨Bu, j, none⟩ = false
theorem Ord.same {w w' : World} {Bo n : Nat} {b : List Int} (h : Ord w Bo n b) (e : w'.heap[Bo]? = w.heap[Bo]?) : Ord w' Bo n b :=
  ⟨h.len, fun j hj => (World.cell?_of_block (a := ⟨Bo, j, none⟩) e).trans (h.cell j hj), fun j hj => by
    rw [World.cell?_of_block (a := ⟨Bo, j, none⟩) e, World.frozen?_of_block (a := ⟨Bo, j, none⟩) e]; exact h.room j hj⟩
theorem Used.same {w w' : World} {Bu n : Nat} {b : List Int} (h : Used w Bu n b) (e : w'.heap[Bu]? = w.heap[Bu]?) : Used w' Bu n b :=
  ⟨fun j hj => (World.cell?_of_block (a := ⟨Bu, j, none⟩) e).trans (h.cell j hj), fun j hj => by
    rw [World.frozen?_of_block (a := ⟨Bu, j, none⟩) e]; exact h.free j hj⟩
theorem Ord.lt {w : World} {Bo n : Nat} {b : List Int} (h : Ord w Bo n b) (hn : 0 < n) : Bo < w.heap.size := by
  obtain ⟨u, hu⟩ := Option.isSome_iff_exists.1 (h.room 0 hn).1
  exact World.block_lt_of_cell? _ _ hu
theorem Used.lt {w : World} {Bu n : Nat} {b : List Int} (h : Used w Bu n b) (hn : 0 < n) : Bu < w.heap.size := World.block_lt_of_cell? _ _ (h.cell 0 hn)
theorem Ord.kb {w w' : World} {Bo n : Nat} {b : List Int} {M : Nat → Prop} (h : Ord w Bo n b) (hn : 0 < n) (k : KB M w w') (hm : ¬ M Bo) : Ord w' Bo n b := h.same (k.block Bo (h.lt hn) hm)
theorem Used.kb {w w' : World} {Bu n : Nat} {b : List Int} {M : Nat → Prop} (h : Used w Bu n b) (hn : 0 < n) (k : KB M w w') (hm : ¬ M Bu) : Used w' Bu n b := h.same (k.block Bu (h.lt hn) hm)
theorem Ord.back {w : World} {Bo n : Nat} {b : List Int} {x : Int} (h : Ord w Bo n (b ++ [x])) : Ord w Bo n b := by
  have hl := h.len
  rw [List.length_append] at hl
  refine ⟨by omega, fun j hj => ?_, h.room⟩
  have := h.cell j (by rw [List.length_append]; omega)
  rwa [List.getElem?_append_left hj] at this
theorem Ord.ints {w : World} {Bo n : Nat} {b : List Int} (h : Ord w Bo n b) (hn : n ≤ 6) : Ints w (some ⟨Bo, 0, none⟩) b.length n b :=
  Ints.mk' rfl h.len (by unfold maxLen; omega) fun j hj => by rw [Nat.zero_add]; exact h.cell j hj
theorem Ord.put {w : World} {Bo n : Nat} {b : List Int} {x : Int} (h : Ord w Bo n b) (hl : b.length < n) : Ord (w.setCell ⟨Bo, b.length, none⟩ (.int .i64 x)) Bo n (b ++ [x]) := by
  refine ⟨by rw [List.length_append]; exact hl, fun j hj => ?_, fun j hj => ⟨?_, by rw [World.frozen?_setCell]; exact (h.room j hj).2⟩⟩
  · rw [List.length_append] at hj
    by_cases e : j = b.length
    · subst e
      rw [World.cell?_setCell_same' _ _ _ (h.room _ hl).1, List.getElem?_append_right (Nat.le_refl _), Nat.sub_self]
      rfl
    · have hj' : j < b.length := by simp at hj; omega
      rw [World.cell?_setCell_other _ _ _ _ (by intro e'; injection e' with _ e2 _; omega), List.getElem?_append_left hj']
      exact h.cell j hj'
  · by_cases e : j = b.length
    · subst e
      rw [World.cell?_setCell_same' _ _ _ (h.room _ hl).1]
      rfl
    · rw [World.cell?_setCell_other _ _ _ _ (by intro e'; injection e' with _ e2 _; omega)]
      exact (h.room j hj).1
theorem Used.put {w : World} {Bu n : Nat} {b b' : List Int} (h : Used w Bu n b) {k : Nat} (hk : k < n) {t : Bool} (ht : t = decide ((k : Int) ∈ b')) (hb : ∀ j : Nat, j ≠ k → ((j : Int) ∈ b' ↔ (j : Int) ∈ b)) : Used (w.setCell ⟨Bu, k, none⟩ (.bool t)) Bu n b' := by
  refine ⟨fun j hj => ?_, fun j hj => by rw [World.frozen?_setCell]; exact h.free j hj⟩
  by_cases e : j = k
  · subst e
    rw [World.cell?_setCell_same' _ _ _ (by rw [h.cell j hk]; rfl), ht]
  · rw [World.cell?_setCell_other _ _ _ _ (by intro e'; injection e' with _ e2 _; omega), h.cell j hj]
    simp only [hb j e]

theorem mem_snoc_ne {b : List Int} {j k : Nat} (h : j ≠ k) : ((j : Int) ∈ b ++ [(k : Int)] ↔ (j : Int) ∈ b) := by
  rw [List.mem_append, List.mem_singleton]
  constructor
  · rintro (h1 | h1)
    · exact h1
    · omega
  · exact .inl
theorem cell_alloc_new (W : World) (v : Value) (t : TypeId) : (W.alloc (.cells #[v] t)).cell? ⟨W.heap.size, 0, none⟩ = some v := by simp
/-- append(order, number) where there is room. -/
theorem wpList_append_ord {P : Program} {t : TypeId} (T : ElemTy P t 3 1 8 (.int .i64 0)) {w : World} {ops : Array Oper} {rest : List Oper} {o : Oper} {a : Act} {Q : Exit → Act → World → Prop} (hgd : o.guard = none) (s x : Operand)
    (ho : o.op = .call { callee := .builtin .append, args := #[s, x], argTypes := #[t, t] }) (Bo n m : Nat) (b : List Int) (hs : a.eval s = .slice (some ⟨Bo, 0, none⟩) m n) (hown : Ord w Bo n b) (hm : b.length = m) (hlt : m < n) (gx : Nat) (y : Int) (hxv : a.eval x = .slice (some ⟨gx, 0, none⟩) 1 1)
    (hx : w.cell? ⟨gx, 0, none⟩ = some (.int .i64 y))
    (h : wpList P ops Q rest (a.put o.dst (.slice (some ⟨Bo, 0, none⟩) (m + 1) n)) (w.setCell ⟨Bo, m, none⟩ (.int .i64 y))) : wpList P ops Q (o :: rest) a w := by
  subst hm
  obtain ⟨i, hi, hz, hsz, hb⟩ := T.info
  have hc1 : ∀ j u, [Value.int .i64 y][j]? = some u → w.cell? ((⟨gx, 0, none⟩ : Addr).add j) = some u := fun j u hu => by
    have hj : j = 0 := by have := (List.getElem?_eq_some_iff.1 hu).1; simpa using this
    subst hj
    rw [add_addr]
    simp only [List.getElem?_cons_zero, Option.some.injEq] at hu
    rw [← hu]
    exact hx
  have hone : ∀ u ∈ [Value.int .i64 y], u.oneCell' = true := fun u hu => by rw [List.mem_singleton] at hu; subst hu; rfl
  have hrun := run_append_room_cells (P := P) w t o.type 3 i T.und hi Bo 0 b.length n ⟨gx, 0, none⟩ 1 1 [.int .i64 y] (by rw [hsz]; rfl) hc1 hone hlt
    (fun j hj => by have hj0 : j = 0 := by simpa using hj
                    subst hj0; rw [hsz, Nat.mul_one, Nat.add_zero, Nat.zero_add]; exact (hown.room _ hlt).1)
    (fun j hj => by have hj0 : j = 0 := by simpa using hj
                    subst hj0; rw [hsz, Nat.mul_one, Nat.add_zero, Nat.zero_add]; exact (hown.room _ hlt).2)
  rw [hsz, Nat.mul_one, Nat.zero_add] at hrun
  refine wpList_plain hgd fun K hK => ?_
  unfold Oper.wp execOp
  simp only [ho, resolve, invoke, builtin, Sem.run_bind, Sem.run_pure, Result.andThen_ok, List.map_toArray, List.map_cons, List.map_nil, hs, hxv, hrun]
  exact hK _ _ h

theorem kb_set (w : World) {M : Nat → Prop} {g k : Nat} {u : Value} (hm : M g) : KB M w (w.setCell ⟨g, k, none⟩ u) :=
  ⟨rfl, rfl, rfl, by simp, fun j _ hj => (grown_setCell w g k u).5 j (by assumption) (fun e => by injection e with e; subst e; exact hj hm)⟩
theorem KB.weak {M M' : Nat → Prop} {w w' : World} (h : KB M w w') (hm : ∀ g, M g → M' g) : KB M' w w' := ⟨h.os, h.tape, h.output, h.size, fun g hg hn => h.block g hg fun hM => hn (hm g hM)⟩

set_option maxRecDepth 100000 in
set_option maxHeartbeats 4000000 in
theorem impl_eachOrder {S : Type} (n : Nat) (hn : n ≤ 6) (Bo Bu : Nat) (hne : Bo ≠ Bu) (c1 c2 : Value) (M : Nat → Prop) (hMo : ¬ M Bo) (hMu : ¬ M Bu) (Inv : S → World → Prop) (g : S → List Int → S × Bool) (live : S → Prop) (hlive : ∀ st ys, live st → (g st ys).2 = true → live (g st ys).1)
    (hst : ∀ st w w', Inv st w → KB (fun k => k = Bo ∨ k = Bu) w w' → Inv st w')
    (hvis : ∀ st ys w, live st → Inv st w → ys.length = n → Ord w Bo n ys → Calls Try.prog 43 #[.slice (some ⟨Bo, 0, none⟩) n n, c1, c2] w fun e w' => e = .returned (.bool (g st ys).2) ∧ Inv (g st ys).1 w' ∧ KB M w w') :
    ∀ (f : Nat) (b : List Int) (m : Nat) (st : S) (w : World), b.length = m → m + f = n → 0 < n → Ord w Bo n b → Used w Bu n b → live st → Inv st w →
      Calls Try.prog 42 #[.slice (some ⟨Bo, 0, none⟩) m n, .slice (some ⟨Bu, 0, none⟩) n n, .func (.func 43) #[] #[c1, c2]] w
        fun e w' => e = .returned (.bool (runV g st (allL n f b)).2) ∧ Inv (runV g st (allL n f b)).1 w' ∧ Ord w' Bo n b ∧ Used w' Bu n b ∧ KB (fun k => M k ∨ k = Bo ∨ k = Bu) w w' := by
  intro f
  induction f with
  | zero =>
    intro b m st w hbm hm h0 hO hU hL hI
    obtain rfl : m = n := by omega
    have H1 := Lib.hid (hvis st b w hL hI hbm hO)
    have HE : Hid (runV g st (allL m 0 b) = g st b) := by unfold Hid allL; exact runV_one g st b
    clear hvis
    go_enter Try.func42, Try.ntmps42
    go_wp2_with (go_at_call 43; refine H1.out.mono ?_; rintro e w1 ⟨rfl, i1, k1⟩)
    go_ret
    rw [HE.out]
    exact ⟨rfl, i1, hO.kb h0 k1 hMo, hU.kb h0 k1 hMu, k1.weak fun _ h => .inl h⟩
  | succ f ih =>
    intro b m st w hbm hm h0 hO hU hL hI
    have hne' : ((m : Int) == (n : Int)) = false := by rw [beq_eq_false_iff_ne]; omega
    have hlt7 : m < n := by omega
    have HM : Hid (m + 1 + f = n) := by unfold Hid; omega
    have HBM := Lib.hid hbm
    have IH := Lib.hid ih
    have HST := Lib.hid hst
    have HLV := Lib.hid (fun l h => runV_live (g := g) (live := live) hlive (l := l) hL h)
    clear ih hvis hm hbm hst hL
    go_enter Try.func42, Try.ntmps42
    go_wp2_with fail
    go_loopg [19] n (fun q i wr => ∃ k : Nat, k ≤ n ∧ q = n - k ∧ i = .int .i64 k ∧ (runV g st (partL n f b k)).2 = true ∧ Inv (runV g st (partL n f b k)).1 wr ∧ Ord wr Bo n b ∧ Used wr Bu n b ∧ KB (fun k => M k ∨ k = Bo ∨ k = Bu) w wr)
    case atStart => exact ⟨0, Nat.zero_le _, rfl, rfl, rfl, hI, hO, hU, KB.refl _ _⟩
    case round =>
      obtain ⟨k, hk, hq, rfl, hr, hIr, hOr, hUr, hkb⟩ := hrel
      have HQ := Lib.hid hq
      have HR := Lib.hid hr
      clear hq hr hI hO hU
      by_cases hlt : k < n
      · have hltI : (k : Int) < (n : Int) := by omega
        have hcu := hUr.cell k hlt
        have hfu := hUr.free k hlt
        by_cases hin : (k : Int) ∈ b
        · have HP := Lib.hid (partL_yes (n := n) (f := f) hin)
          rw [decide_eq_true hin] at hcu
          clear hin
          go_wp2_with fail
          go_roundg (n - (k + 1))
          case measure => have := HQ.out; omega
          case rel => exact ⟨k + 1, by omega, rfl, by go_num, by rw [HP.out]; exact HR.out, by rw [HP.out]; exact hIr, hOr, hUr, hkb⟩
        · have HP := Lib.hid (partL_no (n := n) (f := f) hin)
          rw [decide_eq_false hin] at hcu
          have u1 : Used (wr.setCell ⟨Bu, k, none⟩ (.bool true)) Bu n (b ++ [(k : Int)]) := hUr.put hlt (by simp) (fun j hj => mem_snoc_ne hj)
          have k1 : KB (fun k => k = Bo ∨ k = Bu) wr (wr.setCell ⟨Bu, k, none⟩ (.bool true)) := kb_set wr (.inr rfl)
          have o1 : Ord (wr.setCell ⟨Bu, k, none⟩ (.bool true)) Bo n b := hOr.kb h0 (kb_set (M := fun k => k = Bu) wr rfl) hne
          have k2 : KB (fun k => k = Bo ∨ k = Bu) wr ((wr.setCell ⟨Bu, k, none⟩ (.bool true)).alloc (.cells #[.int .i64 k] 3)) := k1.trans (KB.of_below ((Below.refl _ _).alloc (Nat.le_refl _) _))
          have hgx : ((wr.setCell ⟨Bu, k, none⟩ (.bool true)).alloc (.cells #[.int .i64 k] 3)).cell? ⟨wr.heap.size, 0, none⟩ = some (.int .i64 k) := by
            have hsz : (wr.setCell ⟨Bu, k, none⟩ (.bool true)).heap.size = wr.heap.size := by simp
            rw [← hsz]
            exact cell_alloc_new _ _ _
          have u2 : Used ((wr.setCell ⟨Bu, k, none⟩ (.bool true)).alloc (.cells #[.int .i64 k] 3)) Bu n (b ++ [(k : Int)]) := u1.kb (M := fun _ => False) h0 (KB.of_below ((Below.refl _ _).alloc (Nat.le_refl _) _)) (fun h => h)
          have o2 : Ord ((wr.setCell ⟨Bu, k, none⟩ (.bool true)).alloc (.cells #[.int .i64 k] 3)) Bo n b := o1.kb (M := fun _ => False) h0 (KB.of_below ((Below.refl _ _).alloc (Nat.le_refl _) _)) (fun h => h)
          have o3 := Ord.put (x := (k : Int)) o2 (by rw [HBM.out]; exact hlt7)
          have u3 := u2.kb h0 (kb_set (M := fun k => k = Bo) ((wr.setCell ⟨Bu, k, none⟩ (.bool true)).alloc (.cells #[.int .i64 k] 3)) (g := Bo) (k := b.length) (u := .int .i64 k) rfl) (fun e => hne e.symm)
          have k3 : KB (fun k => k = Bo ∨ k = Bu) wr (((wr.setCell ⟨Bu, k, none⟩ (.bool true)).alloc (.cells #[.int .i64 k] 3)).setCell ⟨Bo, b.length, none⟩ (.int .i64 k)) := k2.trans (kb_set _ (.inl rfl))
          have i3 := HST.out _ _ _ hIr k3
          have k3' := k3.weak (M' := fun k => M k ∨ k = Bo ∨ k = Bu) fun _ h => .inr h
          have P1 := IH.out (b ++ [(k : Int)]) (m + 1) _ _ (by rw [List.length_append, HBM.out]; rfl) HM.out h0 o3 u3 (HLV.out _ HR.out) i3
          rw [HBM.out] at P1 k3'
          have o2' := Lib.hid o2
          have K3 := Lib.hid k3'
          obtain ⟨rest, hrest⟩ := partL_all n f b (show k + 1 ≤ n by omega)
          have HRest := Lib.hid hrest
          clear k1 k2 k3 k3' o1 o2 o3 u1 u2 u3 i3 hrest
          generalize hR : runV g (runV g st (partL n f b k)).1 (allL n f (b ++ [(k : Int)])) = R at P1
          have HRR := Lib.hid hR
          clear hR
          have P1 := Lib.hid P1
          have hnin : ¬ (k : Int) ∈ b := hin
          clear hin hIr
          cases hR2 : R.2 with
          | true =>
            have P1 := P1.out
            rw [hR2] at P1
            have P1 := Lib.hid P1
            have HR2 := Lib.hid hR2
            clear hR2
            go_wp2_with (first
              | (at_builtin; refine wpList_append_ord tyInts rfl (.tmp 29) (.tmp 31) rfl Bo n m b rfl o2'.out HBM.out hlt7 wr.heap.size (k : Int) rfl hgx ?_)
              | (go_at_call 42; refine P1.out.mono ?_; rintro e w4 ⟨rfl, i4, o4, u4, k4⟩; have c4 := u4.cell k hlt; have f4 := u4.free k hlt))
            go_roundg (n - (k + 1))
            case measure => have := HQ.out; omega
            case rel =>
              have hR1 := HRR.out
              have k5 := kb_set (M := fun k => k = Bo ∨ k = Bu) w4 (g := Bu) (k := k) (u := .bool false) (.inr rfl)
              have e5 : runV g st (partL n f b (k + 1)) = R := by rw [HP.out, runV_yes HR.out, hR1]
              exact ⟨k + 1, by omega, rfl, by go_num, by rw [e5]; exact HR2.out, by rw [e5]; exact HST.out _ _ _ i4 k5, o4.back.kb h0 (kb_set (M := fun k => k = Bu) w4 rfl) hne, u4.put hlt (by simpa using hnin) (fun j hj => (mem_snoc_ne hj).symm), (hkb.trans (K3.out.trans k4)).trans (k5.weak fun _ h => .inr h)⟩
          | false =>
            have P1 := P1.out
            rw [hR2] at P1
            have P1 := Lib.hid P1
            have HR2 := Lib.hid hR2
            clear hR2
            go_wp2_with (first
              | (at_builtin; refine wpList_append_ord tyInts rfl (.tmp 29) (.tmp 31) rfl Bo n m b rfl o2'.out HBM.out hlt7 wr.heap.size (k : Int) rfl hgx ?_)
              | (go_at_call 42; refine P1.out.mono ?_; rintro e w4 ⟨rfl, i4, o4, u4, k4⟩; have c4 := u4.cell k hlt; have f4 := u4.free k hlt))
            go_ret
            have hR1 := HRR.out
            have k5 := kb_set (M := fun k => k = Bo ∨ k = Bu) w4 (g := Bu) (k := k) (u := .bool false) (.inr rfl)
            have e5 : runV g st (partL n f b (k + 1)) = R := by rw [HP.out, runV_yes HR.out, hR1]
            have e6 : runV g st (allL n (f + 1) b) = R := by rw [HRest.out, runV_no (by rw [e5]; exact HR2.out), e5]
            rw [e6, HR2.out]
            exact ⟨rfl, HST.out _ _ _ i4 k5, o4.back.kb h0 (kb_set (M := fun k => k = Bu) w4 rfl) hne, u4.put hlt (by simpa using hnin) (fun j hj => (mem_snoc_ne hj).symm), (hkb.trans (K3.out.trans k4)).trans (k5.weak fun _ h => .inr h)⟩
      · have hltI : ¬ (k : Int) < (n : Int) := by omega
        obtain rfl : k = n := by omega
        have HE : Hid (allL k (f + 1) b = partL k f b k) := rfl
        go_wp2_with fail
        go_ret
        rw [HE.out, HR.out]
        exact ⟨rfl, hIr, hOr, hUr, hkb⟩

end Go.Proofs.Ytahbflbhkalehaa
