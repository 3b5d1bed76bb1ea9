/-
  A range over a function whose rounds never leave the loop: what the caller owes, what the iterator owes; slices are handed over, so each round is told what its slice reads as. No program in sight.
-/
import Derived.Test.YtahbflbhkalehaaMem3
import Derived.RangeFuncNested
import Derived.RangeFuncBound
import Derived.RangeFuncCalls
import Derived.RangeFuncLeaves
import Derived.Shelf.Abstract
import Derived.OwnWalkIn
namespace Go.Proofs.Ytahbflbhkalehaa
open Go.RowKit

/-- All that lay there is as it was, but the blocks M. -/
structure KB (M : Nat → Prop) (W W' : World) : Prop where
  os : W'.os = W.os
  tape : W'.tape = W.tape
  output : W'.output = W.output
  size : W.heap.size ≤ W'.heap.size
  block : ∀ g, g < W.heap.size → ¬ M g → W'.heap[g]? = W.heap[g]?
theorem KB.refl (M : Nat → Prop) (W : World) : KB M W W := ⟨rfl, rfl, rfl, Nat.le_refl _, fun _ _ _ => rfl⟩
theorem KB.trans {M : Nat → Prop} {A B C : World} (h : KB M A B) (k : KB M B C) : KB M A C :=
  ⟨k.os.trans h.os, k.tape.trans h.tape, k.output.trans h.output, Nat.le_trans h.size k.size, fun g hg hm => (k.block g (Nat.lt_of_lt_of_le hg h.size) hm).trans (h.block g hg hm)⟩
theorem KB.of_below {M : Nat → Prop} {A B : World} (h : Below A.heap.size A B) : KB M A B := ⟨h.os, h.tape, h.output, h.size, fun g hg _ => h.block g hg⟩
theorem KB.below {M : Nat → Prop} {A B : World} {base : Nat} (h : KB M A B) (hb : base ≤ A.heap.size) (hM : ∀ g, M g → base ≤ g) : Below base A B :=
  ⟨h.os, h.tape, h.output, h.size, fun g hg => h.block g (Nat.lt_of_lt_of_le hg hb) fun hm => by have := hM g hm; omega⟩
theorem KB.cell {M : Nat → Prop} {A B : World} (h : KB M A B) {p : Addr} {u : Value} (hc : A.cell? p = some u) (hm : ¬ M p.block) : B.cell? p = some u :=
  (World.cell?_of_block (h.block p.block (World.block_lt_of_cell? _ _ hc) hm)).trans hc
theorem KB.ints {M : Nat → Prop} {A B : World} (h : KB M A B) {a : Option Addr} {n cap : Nat} {xs : List Int} (hi : Ints A a n cap xs) (hm : 0 < n → ∀ x, a = some x → ¬ M x.block) : Ints B a n cap xs :=
  ⟨hi.len, hi.le, hi.max, fun hn => by
    obtain ⟨b, off, e, hc⟩ := Cells.at_ hi hn
    exact ⟨b, off, e, fun j u hu => h.cell (p := ⟨b, off + j, none⟩) (hc j u hu) (hm hn ⟨b, off, none⟩ e)⟩⟩
theorem below_putObj {B : Nat} (W : World) (l : Nat) (o : Obj) (hB : B ≤ l) (hs : B ≤ W.heap.size) : Below B W (W.putObj l o) :=
  (Below.refl B W).grown (grownBy_putObj' W l o) hs (fun k e => by cases e; exact hB)
theorem KB.putObj {M : Nat → Prop} (W : World) (l : Nat) (o : Obj) : KB (fun g => M g ∨ g = l) W (W.putObj l o) :=
  ⟨rfl, rfl, rfl, by simp, fun g _ hm => World.putObj_heap_other fun e => hm (.inr e)⟩

/-- Below block B, and in all cells that there are, w' is as w. -/
structure Kc (B : Nat) (w w' : World) : Prop where
  below : Below B w w'
  cells : ∀ (g : Nat) (c : Array Value) (t : TypeId) (f : Nat × Nat), w.heap[g]? = some (Obj.cells c t f) → w'.heap[g]? = some (Obj.cells c t f)
theorem Kc.ofB {B : Nat} {w w' : World} (h : Below w.heap.size w w') (hb : B ≤ w.heap.size) : Kc B w w' :=
  ⟨h.mono hb, fun g c t f hg => by
    rw [h.block g ?_]
    · exact hg
    · rcases Nat.lt_or_ge g w.heap.size with hlt | hge
      · exact hlt
      · rw [Array.getElem?_eq_none hge] at hg; cases hg⟩
theorem Kc.mono {B B' : Nat} {w w' : World} (h : Kc B w w') (hb : B' ≤ B) : Kc B' w w' := ⟨h.below.mono hb, h.cells⟩
theorem Kc.put {B : Nat} (W : World) (l : Nat) (o : Obj) (hB : B ≤ l) (hs : B ≤ W.heap.size) (hn : ∀ (c : Array Value) (t : TypeId) (f : Nat × Nat), W.heap[l]? ≠ some (Obj.cells c t f)) : Kc B W (W.putObj l o) :=
  ⟨below_putObj W l o hB hs, fun g c t f hg => by
    rw [World.putObj_heap_other ?_]
    · exact hg
    · rintro rfl; exact hn _ _ _ hg⟩
theorem Own.kc {w w' : World} {base B : Nat} {e : TypeId} {size : Nat} {a : Option Addr} {n cap : Nat} {vs : List Value} (h : Own w base e size a n cap vs) (hk : Kc B w w') : Own w' base e size a n cap vs := by
  refine ⟨h.1, ?_⟩
  rcases h.2 with h1 | ⟨g, cap', cur, h1, hbs, hg, r⟩
  · exact .inl h1
  · exact .inr ⟨g, cap', cur, h1, hbs, hk.cells _ _ _ _ hg, r⟩
theorem OwnI.kc {w w' : World} {base B : Nat} {a : Option Addr} {n cap : Nat} {xs : List Int} (h : OwnI w base a n cap xs) (hk : Kc B w w') : OwnI w' base a n cap xs := Own.kc h hk

/-- The slice may be read, and no block of M holds it. -/
def Reads (M : Nat → Prop) (B : Nat) (W : World) (A : Option Addr) (n c : Nat) (xs : List Int) : Prop := Ints W A n c xs ∧ (0 < n → ∀ x, A = some x → ¬ M x.block) ∧ OwnI W B A n c xs

/-- The iterator hands over the lists L, one after the other; its rounds turn the blocks M alone. -/
def SeqM (P : Program) (gf : Nat) (lb : Array Value) (M : Nat → Prop) (L : List (List Int)) (W : World) : Prop :=
  ∀ (m l : Nat) (J : Nat → World → Prop), (∀ k A B, J k A → W.heap.size ≤ A.heap.size → Kc W.heap.size A B → J k B) →
    (∀ k, k < L.length → ∀ (m' : Nat) (A : Option Addr) (q c : Nat) (W1 : World), J k W1 → W.heap.size ≤ W1.heap.size → Reads M W.heap.size W1 A q c (L[k]?.getD []) →
      YieldAt Fence.wide m' P l #[.slice A q c] W1 fun e W' => e = .returned (.bool true) ∧ J (k + 1) W' ∧ KB M W1 W') →
    J 0 W → CallsIn Fence.wide m P gf (#[.func (.yield l) #[] #[]] ++ lb) W fun e W' => (∃ v, e = .returned v) ∧ J L.length W' ∧ KB M W W'

/-- How a round's body is left. -/
def goesOn (M : Nat → Prop) (I : World → Prop) (W : World) : Exit → Act → World → Prop
  | .normal, _, W' => KB M W W' ∧ I W'
  | _, _, _ => False

theorem wp_rangeM {P : Program} {g : Operand} {ps : Array Tmp} {assign body : Code} {Q : Exit → Act → World → Prop} {a : Act} {w : World} {n : Nat} {M : Nat → Prop}
    {gf : Nat} {lb : Array Value} (hg : a.eval g = .func (.func gf) #[] lb) (eg : ∀ args w, (callFunc gf args).run P w = .ok (.enter gf args) w)
    (L : List (List Int)) (hM : ∀ g, M g → g < w.heap.size) (hseq : ∀ W1, Below w.heap.size w W1 → SeqM P gf lb M L W1) (hps : ps.size = 1)
    (I : Nat → World → Prop) (hI : ∀ k A B, I k A → w.heap.size ≤ A.heap.size → Kc w.heap.size A B → I k B) (h0 : I 0 w) (a₁ : Value → Act)
    (hassign : ∀ (l : Nat) (v : Value) (W : World) (K : Act → World → Prop), K (a₁ v) W → ∀ m, assign.wpIn (Fence.wide.inRound l) m P (Exit.then K (fun _ _ _ => False)) { tmps := (ps.zip #[v]).foldl (fun t (p, v) => t.setIfInBounds p v) a.tmps, defers := [] } W)
    (hbody : ∀ (l k : Nat), k < L.length → ∀ (A : Option Addr) (q c : Nat) (W : World), w.heap.size ≤ W.heap.size → I k W → Reads M w.heap.size W A q c (L[k]?.getD []) → ∀ m, body.wpIn (Fence.wide.inRound l) m P (goesOn M (I (k + 1)) W) (a₁ (.slice A q c)) W)
    (hdone : ∀ (D : Nat) (W : World), w.heap.size ≤ D → I L.length W → KB M w W → W.heap[D]? = some (.deferred (some [])) → Q .normal { a with defers := { target := .collected D, args := #[] } :: a.defers } W) :
    (Code.rangeFunc g ps assign body).wpIn Fence.wide n P Q a w := by
  refine wpIn_rangeFunc ?_
  intro fn hfn
  obtain ⟨rec, hrec⟩ : ∃ rec : LoopState → Option Code → Loop, rec = fun st pe => { state := st, pending := pe, fn, tmps := a.tmps, params := ps, assign, body, defers := w.heap.size } := ⟨_, rfl⟩
  obtain ⟨W1, hW1⟩ : ∃ W1, (w.alloc (.deferred (some []))).alloc (.loop (rec .ready none)) = W1 := ⟨_, rfl⟩
  have hL1 : W1.heap[w.heap.size + 1]? = some (.loop (rec .ready none)) := by
    rw [← hW1]; have := World.alloc_heap_new (w.alloc (.deferred (some []))) (.loop (rec .ready none)); rwa [World.size_alloc] at this
  have hK1 : W1.heap[w.heap.size]? = some (.deferred (some [])) := by
    rw [← hW1]; exact (Below.heap_alloc _ _ _ (by simp)).trans (World.alloc_heap_new w _)
  have hb1 : Below w.heap.size w W1 := by
    rw [← hW1]; exact ((Below.refl _ w).alloc (Nat.le_refl _) _).alloc (by simp) _
  have hs1 : W1.heap.size = w.heap.size + 2 := by rw [← hW1]; simp
  have hI1 : I 0 W1 := hI 0 w W1 h0 (Nat.le_refl _) (Kc.ofB hb1 (Nat.le_refl _))
  have hML : ¬ M (w.heap.size + 1) := fun h => by have := hM _ h; omega
  have hMD : ¬ M w.heap.size := fun h => by have := hM _ h; omega
  refine ⟨w.heap.size + 1, [{ target := .collected w.heap.size, args := #[] }], W1, { target := .fn (.func gf) lb, args := #[.func (.yield (w.heap.size + 1)) #[] #[]] }, W1, gf,
    #[.func (.yield (w.heap.size + 1)) #[] #[]] ++ lb, W1, ?_, ?_, ?_, ?_, (fun h => by cases h), ?_⟩
  · rw [← hW1, hrec]; exact run_enterLoop_outer _ _ _ _ _
  · simp only [resolve, hg]
    simp [go_sem]
  · intro f' hf'; trivial
  · simp [invoke, go_sem, eg]
  · refine (hseq W1 hb1 (n - 1) (w.heap.size + 1)
      (fun k W => I k W ∧ W.heap[w.heap.size + 1]? = some (.loop (rec .ready none)) ∧ W.heap[w.heap.size]? = some (.deferred (some [])))
      (fun k A B hJ hs hb => ⟨hI k A B hJ.1 (by omega) (hb.mono (by omega)), (hb.below.block _ (by omega)).trans hJ.2.1, (hb.below.block _ (by omega)).trans hJ.2.2⟩) ?_ ⟨hI1, hL1, hK1⟩).mono ?_
    · rintro k hk m' A q c W ⟨hi, hl, hd⟩ hsW hR
      have hlt : w.heap.size + 1 < W.heap.size := by omega
      have hy := run_yield (P := P) (args := #[.slice A q c]) hl (by rw [hrec]; simp [hps])
      rw [hrec] at hy
      refine ⟨fn, _, assign, body, hy, roundIn_of_wpIn hfn (hassign _ _ W _ ?_ _)⟩
      clear hy
      refine ⟨_, run_beginRound hl (by rw [hrec]), ?_⟩
      obtain ⟨W2, hW2⟩ : ∃ W2, W.putObj (w.heap.size + 1) (.loop { rec .ready none with state := .busy }) = W2 := ⟨_, rfl⟩
      have hl2 : W2.heap[w.heap.size + 1]? = some (.loop { rec .ready none with state := .busy }) := by rw [← hW2]; exact World.putObj_heap_same hlt
      have hd2 : W2.heap[w.heap.size]? = some (.deferred (some [])) := by rw [← hW2]; exact (World.putObj_heap_other (by omega)).trans hd
      have hb2 : Below w.heap.size W W2 := by rw [← hW2]; exact below_putObj W _ _ (by omega) (by omega)
      have hsz2 : W2.heap.size = W.heap.size := by rw [← hW2]; simp
      have hi2 : I k W2 := hI k W W2 hi (by omega) (by rw [← hW2]; exact Kc.put W _ _ (by omega) (by omega) (fun c t f q => by rw [hl] at q; cases q))
      have hO2 : OwnI W2 w.heap.size A q c (L[k]?.getD []) := by
        refine ⟨hR.2.2.1, ?_⟩
        rcases hR.2.2.2 with h1 | ⟨g, cap', cur, h1, hbs, hg, r⟩
        · exact .inl h1
        · refine .inr ⟨g, cap', cur, h1, by omega, ?_, r⟩
          rw [← hW2, World.putObj_heap_other ?_]
          · exact hg
          · rintro rfl
            rw [hl] at hg
            cases hg
      have hR2 : Reads M w.heap.size W2 A q c (L[k]?.getD []) := by
        refine ⟨⟨hR.1.len, hR.1.le, hR.1.max, fun hn => ?_⟩, hR.2.1, hO2⟩
        obtain ⟨b, off, e, hc⟩ := Cells.at_ hR.1 hn
        refine ⟨b, off, e, fun j u hu => ?_⟩
        have h1 := hc j u hu
        have hne : b ≠ w.heap.size + 1 := by
          rintro rfl
          have h2 : W.cell? ⟨w.heap.size + 1, off + j, none⟩ = none := by simp [World.cell?, hl]
          rw [h2] at h1
          cases h1
        rw [← hW2]
        exact (World.cell?_of_block (a := ⟨b, off + j, none⟩) (World.putObj_heap_other hne)).trans h1
      rw [hW2]
      refine wpIn_mono (hbody _ k hk A q c W2 (by omega) hi2 hR2 _) ?_
      rintro e a3 W3 hp
      cases e with
      | normal =>
        obtain ⟨hkb, hi3⟩ := hp
        have hl3 := (hkb.block _ (by omega) hML).trans hl2
        have hd3 := (hkb.block _ (by omega) hMD).trans hd2
        have hz3 := hkb.size
        have hend := run_endRound (P := P) none hl3
        refine ⟨_, _, hend, rfl, ⟨?_, ?_, ?_⟩, ?_⟩
        · exact hI _ _ _ hi3 (by omega) (Kc.put W3 _ _ (by omega) (by omega) (fun c t f q => by rw [hl3] at q; cases q))
        · rw [World.putObj_heap_same (by omega), hrec]; rfl
        · exact (World.putObj_heap_other (by omega)).trans hd3
        · refine ⟨hkb.os.trans hb2.os, hkb.tape.trans hb2.tape, hkb.output.trans hb2.output, by simp; omega, fun g' hg' hm' => ?_⟩
          by_cases he : g' = w.heap.size + 1
          · subst he
            rw [World.putObj_heap_same (by omega), hl, hrec]
            rfl
          · rw [World.putObj_heap_other he, hkb.block g' (by omega) hm', ← hW2, World.putObj_heap_other he]
      | ret => exact hp.elim
      | exit id => exact hp.elim
      | goto t => exact hp.elim
      | panic ch => exact hp.elim
      | outgrown => exact hp.elim
    · rintro e W2 ⟨⟨v, rfl⟩, ⟨hi, hl, hd⟩, hkb⟩
      have hz := hkb.size
      refine ⟨none, _, by have := run_endLoop (P := P) hl (by rw [hrec]; simp); rw [hrec] at this; exact this, hdone _ _ (Nat.le_refl _) (hI _ _ _ hi (by omega) (Kc.put W2 _ _ (by omega) (by omega) (fun c t f q => by rw [hl] at q; cases q))) ?_ ((World.putObj_heap_other (by omega)).trans hd)⟩
      have hk2 : KB M w W2 := (KB.of_below hb1).trans hkb
      exact ⟨hk2.os, hk2.tape, hk2.output, by simpa using hk2.size, fun g' hg' hm' => (World.putObj_heap_other (by omega)).trans (hk2.block g' hg' hm')⟩

/-- append(s, x...), inside a fence. -/
theorem wpListIn_append_cells {F : Fence} {fd : Nat} {P : Program} {t e : TypeId} {size bytes : Nat} {z : Value} (T : ElemTy P t e size bytes z) {w : World} {ops : Array Oper} {rest : List Oper} {o : Oper} {a : Act} {Q : Exit → Act → World → Prop} (hgd : o.guard = none) (s x : Operand)
    (ho : o.op = .call { callee := .builtin .append, args := #[s, x], argTypes := #[t, t] }) (base : Nat)
    (A : Option Addr) (n cap : Nat) (vs : List Value) (hs : a.eval s = .slice A n cap) (hown : Own w base e size A n cap vs) (X : Option Addr) (m c : Nat) (news : List Value) (hxv : a.eval x = .slice X m c) (hx : Cells w size X m c news) (h1 : ∀ u ∈ news, u.oneCell' = true)
    (h63 : n + m ≤ 9223372036854775807) (hbytes : (n + m) * bytes ≤ 140737488355328) (hbase : base ≤ w.heap.size)
    (h : ∀ A' cap' w', Own w' base e size A' (n + m) cap' (vs ++ news) → w.grownBy w' (A.map (·.block)) → (A' = A ∨ A' = some ⟨w.heap.size, 0, none⟩) → wpListIn F fd P ops Q rest (a.put o.dst (.slice A' (n + m) cap')) w') : wpListIn F fd P ops Q (o :: rest) a w := by
  refine wpListIn_plain hgd fun K hK' => ?_
  obtain ⟨A', cap', w', hrun, h2, h3, h4⟩ := run_append_cells T w o.type base A n cap vs hown X m c news hx h1 h63 hbytes hbase
  unfold Oper.wpIn
  refine ⟨?_, ?_⟩
  · simp [Oper.about, ho, resolve, Target.leads, Sem.run_pure]
  · rw [Oper.semAt_plain F _ _ (by rw [ho]; intro c hc'; cases hc')]
    simp [execOp, ho, resolve, invoke, builtin, hs, hxv, hrun, Result.andThen]
    exact hK' _ _ (h A' cap' w' h2 h3 h4)
theorem wpListIn_append_ints {F : Fence} {fd : Nat} {P : Program} {t : TypeId} (T : ElemTy P t 3 1 8 (.int .i64 0)) {w : World} {ops : Array Oper} {rest : List Oper} {o : Oper} {a : Act} {Q : Exit → Act → World → Prop} (hgd : o.guard = none) (s x : Operand)
    (ho : o.op = .call { callee := .builtin .append, args := #[s, x], argTypes := #[t, t] }) (base : Nat)
    (A : Option Addr) (n cap : Nat) (xs : List Int) (hs : a.eval s = .slice A n cap) (hown : OwnI w base A n cap xs) (X : Option Addr) (m c : Nat) (ys : List Int) (hxv : a.eval x = .slice X m c) (hx : Ints w X m c ys)
    (hn : n + m ≤ 4000000) (hbase : base ≤ w.heap.size)
    (h : ∀ A' cap' w', OwnI w' base A' (n + m) cap' (xs ++ ys) → w.grownBy w' (A.map (·.block)) → (A' = A ∨ A' = some ⟨w.heap.size, 0, none⟩) → wpListIn F fd P ops Q rest (a.put o.dst (.slice A' (n + m) cap')) w') : wpListIn F fd P ops Q (o :: rest) a w :=
  wpListIn_append_cells T hgd s x ho base A n cap _ hs hown X m c _ hxv hx (oneCell_ints ys) (by omega) (by omega) hbase fun A' cap' w' h2 h3 h4 => h A' cap' w' (by
    unfold OwnI; rw [List.map_append]; exact h2) h3 h4
theorem wpListIn_append_int {F : Fence} {fd : Nat} {P : Program} {t : TypeId} (T : ElemTy P t 3 1 8 (.int .i64 0)) {w : World} {ops : Array Oper} {rest : List Oper} {o : Oper} {a : Act} {Q : Exit → Act → World → Prop} (hgd : o.guard = none) (s x : Operand)
    (ho : o.op = .call { callee := .builtin .append, args := #[s, x], argTypes := #[t, t] }) (base : Nat)
    (A : Option Addr) (n cap : Nat) (xs : List Int) (hs : a.eval s = .slice A n cap) (hown : OwnI w base A n cap xs) (g : Nat) (y : Int) (hxv : a.eval x = .slice (some ⟨g, 0, none⟩) 1 1) (hx : w.cell? ⟨g, 0, none⟩ = some (.int .i64 y))
    (hn : n ≤ 4000000) (hbase : base ≤ w.heap.size)
    (h : ∀ A' cap' w', OwnI w' base A' (n + 1) cap' (xs ++ [y]) → w.grownBy w' (A.map (·.block)) → (A' = A ∨ A' = some ⟨w.heap.size, 0, none⟩) → wpListIn F fd P ops Q rest (a.put o.dst (.slice A' (n + 1) cap')) w') : wpListIn F fd P ops Q (o :: rest) a w :=
  wpListIn_append_cells T hgd s x ho base A n cap _ hs hown (some ⟨g, 0, none⟩) 1 1 [.int .i64 y] hxv
    ⟨rfl, Nat.le_refl _, by unfold maxLen; omega, fun _ => ⟨g, 0, rfl, fun j u hu => by
      cases j with
      | zero => simp at hu; subst hu; exact hx
      | succ j => simp at hu⟩⟩ (by simp [Value.oneCell']) (by omega) (by omega) hbase fun A' cap' w' h2 h3 h4 => h A' cap' w' (by
    unfold OwnI; rw [List.map_append]; exact h2) h3 h4
theorem wpListIn_make_cap {F : Fence} {fd : Nat} {P : Program} {t : TypeId} (T : ElemTy P t 3 1 8 (.int .i64 0)) {w : World} {ops : Array Oper} {rest : List Oper} {o : Oper} {a : Act} {Q : Exit → Act → World → Prop}
    (hg : o.guard = none) (l c : Operand) (hop : o.op = Op.makeSlice t l c) (base : Nat) (C : Int) (n : Nat) (hl : a.eval l = .int .i64 0) (hc : a.eval c = .int .i64 C) (hC : C = (n : Int))
    (b2 : n ≤ 2000000) (b4 : base ≤ w.heap.size)
    (hK : ∀ w', OwnI w' base (some ⟨w.heap.size, 0, none⟩) 0 n [] → w.grownBy w' none → wpListIn F fd P ops Q rest (a.put o.dst (.slice (some ⟨w.heap.size, 0, none⟩) 0 n)) w') :
    wpListIn F fd P ops Q (o :: rest) a w := by
  obtain ⟨i, hi, hz, hs, hb⟩ := T.info
  exact wpListIn_make_own w hg l c t hop base 3 i _ 1 T.und hi hz hs .i64 .i64 C n hl hc hC (by rw [hb]; omega) (by unfold maxLen; omega) b4 hK

end Go.Proofs.Ytahbflbhkalehaa
