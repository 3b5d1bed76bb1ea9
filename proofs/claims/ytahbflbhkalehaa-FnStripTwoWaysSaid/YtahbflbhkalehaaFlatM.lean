/-
  What the program's addFold, flatStrip and flatRing make, by walks.
-/
import Derived.Test.YtahbflbhkalehaaFlat
import Derived.Test.YtahbflbhkalehaaStrip2
import Derived.RegionTactic
import Derived.BigRegion
import Derived.StillTailTactics
import Derived.IntWalk
namespace Go.Proofs.Ytahbflbhkalehaa
open Go.RowKit

theorem tyFolds : ElemTy Try.prog 51 63 4 32 (.agg #[.int .i64 0, .int .i64 0, .int .i64 0, .bool false]) :=
  ⟨Try.underlying51, info_parts (by kernel_rfl), rfl, by omega⟩

/-- append(s, x...), inside a region that draws its order. -/
theorem step_append_cells {P : Program} {t e : TypeId} {size bytes : Nat} {z : Value} (T : ElemTy P t e size bytes z) {w : World} {ops : Array Oper} {o : Oper} {a : Act} {K : Act → World → Prop} {Q : Exit → Act → World → Prop} {E : Prop} (hgd : o.guard = none) (s x : Operand)
    (ho : o.op = .call { callee := .builtin .append, args := #[s, x], argTypes := #[t, t] }) (base : Nat)
    (A : Option Addr) (n cap : Nat) (vs : List Value) (hs : a.eval s = .slice A n cap) (hown : Own w base e size A n cap vs) (X : Option Addr) (m c : Nat) (news : List Value) (hxv : a.eval x = .slice X m c) (hx : Cells w size X m c news) (h1 : ∀ u ∈ news, u.oneCell' = true)
    (h63 : n + m ≤ 9223372036854775807) (hbytes : (n + m) * bytes ≤ 140737488355328) (hbase : base ≤ w.heap.size)
    (h : ∀ A' cap' w', Own w' base e size A' (n + m) cap' (vs ++ news) → w.grownBy w' (A.map (·.block)) → (A' = A ∨ A' = some ⟨w.heap.size, 0, none⟩) → K (a.put o.dst (.slice A' (n + m) cap')) w') :
    if Region.wanted o (yielded ops a.tmps) = true then Oper.wp P o a w K Q else E := by
  rw [if_pos (by simp [Region.wanted, hgd])]
  exact wp_append_cells T s x ho base A n cap vs hs hown X m c news hxv hx h1 h63 hbytes hbase h

/-- The parts laid flat, in the making: the first m folds. -/
structure FlatMk (w : World) (g n : Nat) (xs : List Int) (F : List Fd) (m : Nat) : Prop where
  many : w.cell? ⟨g, 0, none⟩ = some (.int .i64 n)
  places : ∃ A c, w.cell? ⟨g, 1, none⟩ = some (.slice A (n + 1) c) ∧ Ints w A (n + 1) c (placesL xs) ∧ ∀ x, A = some x → x.block < g
  folds : ∃ B c, w.cell? ⟨g, 2, none⟩ = some (.slice B m c) ∧ Own w (g + 1) 63 4 B m c (rows (rowI F) m)
  free : w.frozen? ⟨g, 2, none⟩ = false
theorem FlatMk.flat {w : World} {g n : Nat} {xs : List Int} {F : List Fd} {m : Nat} (h : FlatMk w g n xs F m) (hm : m = F.length) : FlatAt w g n xs F := by
  subst hm
  obtain ⟨A, c, h1, h2, _⟩ := h.places
  obtain ⟨B, d, h3, h4⟩ := h.folds
  exact ⟨h.many, ⟨A, c, h1, h2⟩, ⟨B, d, h3, h4.toCells⟩⟩
theorem FlatMk.lt {w : World} {g n : Nat} {xs : List Int} {F : List Fd} {m : Nat} (h : FlatMk w g n xs F m) : g < w.heap.size := World.block_lt_of_cell? _ _ h.many
theorem FlatMk.drewN {w : World} {g n : Nat} {xs : List Int} {F : List Fd} {m : Nat} (h : FlatMk w g n xs F m) (k : Nat) : FlatMk (w.drewN k) g n xs F m := by
  have hb : Below w.heap.size w (w.drewN k) := below_drewN (Below.refl _ _) k
  obtain ⟨A, c, h1, h2, h2'⟩ := h.places
  obtain ⟨B, d, h3, h4⟩ := h.folds
  exact ⟨cell_below hb h.many, ⟨A, c, cell_below hb h1, h2.below hb, h2'⟩, ⟨B, d, cell_below hb h3, Own.below h4 hb⟩, (hb.frozen (p := ⟨g, 2, none⟩) h.lt).trans h.free⟩

theorem FlatMk.step {w w0 w2 : World} {g n : Nat} {xs : List Int} {F : List Fd} {m c2 : Nat} {B A2 : Option Addr} (h : FlatMk w g n xs F m) (hb : Below w.heap.size w w0) (hB : ∀ x, B = some x → g + 1 ≤ x.block)
    (g2 : w0.grownBy w2 (B.map (·.block))) (o2 : Own w2 (g + 1) 63 4 A2 (m + 1) c2 (rows (rowI F) (m + 1))) :
    FlatMk (w2.setCell ⟨g, 2, none⟩ (.slice A2 (m + 1) c2)) g n xs F (m + 1) ∧ Below g w (w2.setCell ⟨g, 2, none⟩ (.slice A2 (m + 1) c2)) := by
  have hlt := h.lt
  have hblk : ∀ j, j ≤ g → w2.heap[j]? = w.heap[j]? := fun j hj => (g2.5 j (by have := hb.size; omega) (by
    cases B with
    | none => simp
    | some x => have := hB x rfl; simp only [Option.map_some, ne_eq, Option.some.injEq]; omega)).trans (hb.block j (by omega))
  have hbg : Below g w w2 := ⟨g2.1.trans hb.os, g2.2.trans hb.tape, g2.3.trans hb.output, Nat.le_trans hb.size g2.4, fun j hj => hblk j (by omega)⟩
  obtain ⟨A, ca, hp, hi, hA⟩ := h.places
  obtain ⟨B0, cb, hB0, hO⟩ := h.folds
  refine ⟨⟨?_, ⟨A, ca, ?_, ?_, hA⟩, ⟨A2, c2, ?_, ?_⟩, ?_⟩, hbg.setCell (p := ⟨g, 2, none⟩) (Nat.le_refl _) _⟩
  · rw [World.cell?_setCell_other _ _ _ _ (by intro e; injection e with _ e2 _; cases e2), World.cell?_of_block (a := ⟨g, 0, none⟩) (hblk g (Nat.le_refl _))]
    exact h.many
  · rw [World.cell?_setCell_other _ _ _ _ (by intro e; injection e with _ e2 _; cases e2), World.cell?_of_block (a := ⟨g, 1, none⟩) (hblk g (Nat.le_refl _))]
    exact hp
  · refine ⟨hi.len, hi.le, hi.max, fun hn => ?_⟩
    obtain ⟨b, off, e, hc⟩ := Cells.at_ hi hn
    have hbl := hA _ e
    simp only at hbl
    refine ⟨b, off, e, fun j u hu => ?_⟩
    rw [World.cell_setCell_ne _ _ _ _ (by simp only; omega), World.cell?_of_block (a := ⟨b, off + j, none⟩) (hblk b (by omega))]
    exact hc j u hu
  · refine World.cell?_setCell_same' _ _ _ ?_
    rw [World.cell?_of_block (a := ⟨g, 2, none⟩) (hblk g (Nat.le_refl _)), hB0]
    rfl
  · refine Own.kept o2 (grown_setCell w2 g 2 (.slice A2 (m + 1) c2)) fun x hx e => ?_
    injection e with e
    rcases Own.form o2 with ⟨e2, _⟩ | ⟨g', e2, hg', _⟩
    · rw [e2] at hx; cases hx
    · rw [e2] at hx; cases hx; simp only at e; omega
  · rw [World.frozen?_setCell, World.frozen?_of_block (a := ⟨g, 2, none⟩) (hblk g (Nat.le_refl _))]
    exact h.free

set_option maxRecDepth 100000 in
set_option maxHeartbeats 4000000 in
theorem impl_addFold (g n : Nat) (xs : List Int) (F : List Fd) (m ah be : Nat) (c : UInt8) (w : World) (h : FlatMk w g n xs F m) (hn : n ≤ 6) (hm : m ≤ 6) (hah : ah ≤ 100) (hbe : be ≤ n) (hl : xs.length = n) (hf : fdAt F m = ⟨ah, be, alt (xs.take be), hiB c ah⟩) :
    Calls Try.prog 25 #[.pointer (some ⟨g, 0, none⟩), .int .i64 ah, .int .i64 be, .int .u8 (c.toNat : Int)] w fun e w' => (∃ v, e = .returned v) ∧ FlatMk w' g n xs F (m + 1) ∧ Below g w w' := by
  obtain ⟨A, ca, hp, hi, hA⟩ := h.places
  obtain ⟨B, cb, hB, hO⟩ := h.folds
  have hmany := h.many
  have hfree := h.free
  have hgl := h.lt
  obtain ⟨b, off, rfl, hc⟩ := hi.cells (by omega)
  have hpl := hc be (by omega)
  rw [placesL_get xs be (by omega)] at hpl
  have hA' := hA _ rfl
  simp only at hA'
  have hbI : (be : Int) < (n : Int) + 1 := by omega
  have hle := hi.le_cap
  obtain ⟨bv, hbv⟩ : ∃ bv, ((c.toNat : Int) == 86) = bv := ⟨_, rfl⟩
  obtain ⟨bp, hbp⟩ : ∃ bp, ((ah : Int).tmod 2 == 0) = bp := ⟨_, rfl⟩
  have hhi : hiB c ah = (bv == bp) := by
    unfold hiB
    rw [← hbv, ← hbp]
    congr 1
    · rw [Bool.eq_iff_iff, beq_iff_eq, beq_iff_eq]
      exact ⟨fun e => by rw [e]; rfl, fun e => UInt8.toNat_inj.1 (by have : c.toNat = 86 := by omega
                                                                     rw [this]; rfl)⟩
    · rw [Int.tmod_eq_emod_of_nonneg (by omega), Bool.eq_iff_iff, beq_iff_eq, decide_eq_true_eq]; omega
  have HF := Lib.hid (show rows (rowI F) (m + 1) = rows (rowI F) m ++ [.int .i64 ah, .int .i64 be, .int .i64 (alt (xs.take be)), .bool (bv == bp)] by rw [rows_succ]; unfold rowI; rw [hf, hhi]; rfl)
  have HI := Lib.hid hi
  have HO := Lib.hid hO
  have HMK := Lib.hid h
  have HBG : Hid (∀ x, B = some x → g + 1 ≤ x.block) := fun x hx => by
    rcases Own.form hO with ⟨e, _⟩ | ⟨g', e, hg', _⟩
    · rw [e] at hx; cases hx
    · rw [e] at hx; cases hx; exact hg'
  have HB1 : Hid ((w.alloc (.cells #[.int .i64 ah, .int .i64 be, .int .i64 (alt (xs.take be)), .bool (bv == bp)] 63)).drew.cell? ⟨g, 2, none⟩ = some (.slice B m cb)) := cell_below ((Below.refl _ w).alloc (Nat.le_refl _) (.cells #[.int .i64 ah, .int .i64 be, .int .i64 (alt (xs.take be)), .bool (bv == bp)] 63)).drew hB
  have HB2 : Hid ((w.alloc (.cells #[.int .i64 ah, .int .i64 be, .int .i64 (alt (xs.take be)), .bool (bv == bp)] 63)).drew.frozen? ⟨g, 2, none⟩ = false) := (((Below.refl _ w).alloc (Nat.le_refl _) (.cells #[.int .i64 ah, .int .i64 be, .int .i64 (alt (xs.take be)), .bool (bv == bp)] 63)).drew.frozen (p := ⟨g, 2, none⟩) hgl).trans hfree
  clear hf hhi hc hA hi hO h
  go_enter Try.func25, Try.ntmps25
  go_wp2_with fail
  go_region_law (refine step_append_cells tyFolds rfl (.tmp 12) (.tmp 29) rfl (g + 1) B m cb _ (by simp [Act.eval]) (Own.below HO.out (((Below.refl _ _).alloc (Nat.le_refl _) _).drew)) (some ⟨w.heap.size, 0, none⟩) 1 1 [.int .i64 ah, .int .i64 be, .int .i64 (alt (xs.take be)), .bool (bv == bp)] (by simp [Act.eval]) ⟨rfl, Nat.le_refl _, by unfold maxLen; omega, fun _ => ⟨_, 0, rfl, fun j u hu => by
      match j, hu with
      | 0, hu => cases hu; simp
      | 1, hu => cases hu; simp
      | 2, hu => cases hu; simp
      | 3, hu => cases hu; simp⟩⟩ (by intro u hu; simp only [List.mem_cons, List.not_mem_nil, or_false] at hu; rcases hu with rfl | rfl | rfl | rfl <;> rfl) (by omega) (by omega) (by simp; omega) ?_; intro A2 c2 w2 o2 g2 e2; have hg2 := g2.5 g (by simp; omega) (by have := HBG.out; cases hB0 : B with
        | none => simp
        | some x => have := this x hB0; simp only [Option.map_some, ne_eq, Option.some.injEq]; omega); have k2 := (World.cell?_of_block (a := ⟨g, 2, none⟩) hg2).trans HB1.out; have k2f := (World.frozen?_of_block (a := ⟨g, 2, none⟩) hg2).trans HB2.out; clear e2)
  all_goals
    rw [← HF.out] at o2
    have hst := HMK.out.step (((Below.refl _ w).alloc (Nat.le_refl _) (.cells #[.int .i64 ah, .int .i64 be, .int .i64 (alt (xs.take be)), .bool (bv == bp)] 63)).drew) HBG.out g2 o2
    have HST := Lib.hid hst
    clear hst g2
    go_wp2_with fail
    go_end0
    exact ⟨⟨_, rfl⟩, HST.out.1, HST.out.2⟩

/-- What flatStrip and flatRing hand back. -/
def RFlat (w : World) (n : Nat) (xs : List Int) (F : List Fd) (e : Ending) (w' : World) : Prop := ∃ g, e = .returned (.pointer (some ⟨g, 0, none⟩)) ∧ FlatAt w' g n xs F ∧ Below w.heap.size w w'

theorem FlatMk.new {w w1 : World} {n c : Nat} {xs : List Int} {F : List Fd} {A : Option Addr} (o : OwnI w1 w.heap.size A (n + 1) c (placesL xs)) : FlatMk (w1.alloc (.cells #[.int .i64 n, .slice A (n + 1) c, .slice none 0 0] 53)) w1.heap.size n xs F 0 := by
  refine ⟨by simp, ⟨A, c, by simp, (o.below ((Below.refl _ _).alloc (Nat.le_refl _) _)).ints, fun x hx => o.lt x hx⟩, ⟨none, 0, by simp, World.ownsRow_nil _ _ _ _⟩, by simp⟩

set_option maxHeartbeats 2000000 in
theorem impl_flatStrip (a : Option Addr) (n cap : Nat) (xs : List Int) (s : ByteArray) (w : World) (h : Ints w a n cap xs) (hn1 : 1 ≤ n) (hn : n ≤ 6) (hin : allIn 1 1000 xs) (hs : s.size + 1 = n) :
    Calls Try.prog 13 #[.slice a n cap, .string s] w (RFlat w n xs (stripFs xs s)) := by
  have hle := h.le_cap
  have hmx := h.cap_max
  have hL := h.length
  have HL := Lib.hid hL
  have P1 := Lib.hid (impl_placesOf a n cap xs w h hn hin)
  have HPL := Lib.hid (placesL_length xs)
  have HFL : Hid ((stripFs xs s).length = s.size) := by unfold Hid; rw [stripFs_length, hL]; omega
  clear h hin hL
  go_enter Try.func13, Try.ntmps13
  go_wp2_with fail
  refine P1.out.mono ?_
  rintro e w1 ⟨a1, n1, c1, rfl, o1, b1⟩
  obtain rfl : n1 = n + 1 := by rw [← o1.length, HPL.out, HL.out]
  have M0 := FlatMk.new (F := stripFs xs s) o1
  have B0 := b1.alloc b1.size (.cells #[.int .i64 n, .slice a1 (n + 1) c1, .slice none 0 0] 53)
  have hz1 := b1.size
  go_wp2_with fail
  go_loopg [6] s.size (fun q i wr => ∃ k : Nat, k ≤ s.size ∧ q = s.size - k ∧ i = .int .i64 k ∧ FlatMk wr w1.heap.size n xs (stripFs xs s) k ∧ Below w.heap.size w wr)
  case atStart => exact ⟨0, Nat.zero_le _, rfl, rfl, M0, B0⟩
  case round =>
    obtain ⟨k, hk, hq, rfl, hM, hB⟩ := hrel
    have HQ := Lib.hid hq
    clear hq
    by_cases hlt : k < s.size
    · have P2 := impl_addFold w1.heap.size n xs (stripFs xs s) k k (k + 1) s[k] wr hM hn (by omega) (by omega) (by omega) HL.out (by rw [stripFs_at (by rw [HL.out]; omega)]; unfold stripFd; rw [bAt_get s k hlt])
      rw [show ((k + 1 : Nat) : Int) = (k : Int) + 1 by omega] at P2
      have P2 := Lib.hid P2
      have hltI : (k : Int) < (s.size : Int) := by omega
      go_wp2_with fail
      refine P2.out.mono ?_
      rintro e w2 ⟨⟨v, rfl⟩, M2, b2⟩
      go_wp2_with fail
      go_roundg (s.size - (k + 1))
      case measure => have := HQ.out; omega
      case rel => exact ⟨k + 1, by omega, rfl, by go_num, M2, hB.trans (b2.mono hz1)⟩
    · have hltI : ¬ (k : Int) < (s.size : Int) := by omega
      have HM := Lib.hid (hM.flat (by rw [HFL.out]; omega))
      go_wp2_with fail
      go_ret
      exact ⟨_, rfl, HM.out, hB⟩

end Go.Proofs.Ytahbflbhkalehaa
