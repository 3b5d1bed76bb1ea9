/-
  The walk through the law on StripFirst: it returns true.
-/
import Derived.Test.YteigbpmfjiofiaaDraw6
import Derived.Test.YteigbpmfjiofiaaManyS
import Derived.Test.YteigbpmfjiofiaaLawHelp
import Derived.Deep.RegionHeld3
import Derived.IntWalk
namespace Go.Proofs.Yteigbpmfjiofiaa
open Go.RowKit

theorem first_least {xs : List Int} {s : ByteArray} {L ys : List Int} (h : (rtsS xs s).head? = some L) (hl : lexB ys L = true) : strLB xs s ys = false := by
  rw [Bool.eq_false_iff]
  intro h2
  obtain ⟨q1, q2⟩ := strLB_iff.1 h2
  obtain ⟨r1, r2, _⟩ := rightB_iff.1 q2
  have hm : ys ∈ rtsS xs s := rtsS_mem.2 ⟨q1, r1, r2, q2⟩
  have hs : (rtsS xs s).Pairwise fun x y => lexB x y = true := by
    rw [rtsS_yes q1]
    exact List.Pairwise.sublist List.filter_sublist (perms_sorted _)
  cases hr : rtsS xs s with
  | nil => rw [hr] at h; cases h
  | cons z r =>
    rw [hr] at h hm hs
    simp only [List.head?_cons, Option.some.injEq] at h
    subst h
    rcases List.mem_cons.1 hm with e | e
    · subst e; rw [lexB_irrefl] at hl; cases hl
    · have := lexB_trans hl ((List.pairwise_cons.1 hs).1 ys e)
      rw [lexB_irrefl] at this; cases this
theorem swap_lex : ∀ (i : Nat) (L : List Int), i + 1 < L.length → L[i + 1]?.getD 0 < L[i]?.getD 0 → lexB ((L.set i (L[i + 1]?.getD 0)).set (i + 1) (L[i]?.getD 0)) L = true := by
  intro i
  induction i with
  | zero =>
    intro L hl h
    match L, hl with
    | a :: b :: r, _ => exact lexB_head h _ _
  | succ i ih =>
    intro L hl h
    match L, hl with
    | c :: r, hl =>
      have := ih r (by simpa using hl) (by simpa using h)
      have e := lexB_append [c] ((r.set i (r[i + 1]?.getD 0)).set (i + 1) (r[i]?.getD 0)) r
      rw [← e] at this
      simpa using this
theorem set_two {L : List Int} {k : Nat} {x y : Int} (h : k + 1 < L.length) : ((L.set k x).set (k + 1) y)[k]?.getD 0 = x := by
  rw [List.getElem?_set_ne (by omega), List.getElem?_set_self (by omega)]
  rfl
theorem ones_lengths {n : Nat} (h1 : 1 ≤ n) (h6 : n ≤ 6) : lengthsB (List.replicate n 1) = true :=
  (lengthsB_iff _).2 ⟨by rw [List.length_replicate]; exact h1, by rw [List.length_replicate]; exact h6, fun x hx => by rw [(List.mem_replicate.1 hx).2]; omega⟩
theorem zigS_odd' {k : Nat} (h : k % 2 = 1) : zigS (k + 1 - 1) = zigS (k - 1) ++ ⟨#[86]⟩ := by
  rw [Nat.add_sub_cancel, show k = k - 1 + 1 by omega, zigS_succ, if_pos (by omega), Nat.add_sub_cancel]
theorem zigS_even' {k : Nat} (h : k % 2 = 0) (h0 : 0 < k) : zigS (k + 1 - 1) = zigS (k - 1) ++ ⟨#[77]⟩ := by
  rw [Nat.add_sub_cancel, show k = k - 1 + 1 by omega, zigS_succ, if_neg (by omega), Nat.add_sub_cancel]
theorem OwnI.some_head {w : World} {base : Nat} {a : Option Addr} {n cap : Nat} {xs : List Int} (h : OwnI w base a n cap xs) (hn : 1 ≤ n) : ∃ g, a = some ⟨g, 0, none⟩ ∧ base ≤ g := by
  rcases Own.form h with ⟨_, h0, _⟩ | ⟨g, e, hg, _⟩
  · omega
  · exact ⟨g, e, hg⟩

set_option maxRecDepth 100000 in
set_option maxHeartbeats 8000000 in
theorem law_FnStripFirst (w : World) (a : Option Addr) (n cap : Nat) (bs : List Int) (hx : Bytes w a n cap bs) :
    Calls Try.prog 13 #[.slice a n cap] w (RVal w (.bool true)) := by
  have hle := hx.1.le
  have hmx := hx.1.max
  unfold maxLen at hmx
  by_cases hn : n ≤ 1048576
  · have H1 := Lib.hid (spec_DrawStripFirst a n cap bs w hx)
    go_enter Try.func13, Try.ntmps13
    go_wp2_with fail
    refine H1.out.mono ?_
    rintro e w1 ⟨a1, n1, c1, xs, s, rfl, o1, hn1, hs1, B1⟩
    have i1 := o1.ints
    have hle1 := i1.le_cap
    have hmx1 := i1.cap_max
    have HL1 := Lib.hid i1.length
    have P1 := fun (W : World) h1 => impl_StripFirst a1 n1 c1 xs s W h1 (by unfold maxLen; omega)
    have P2 := fun (W : World) h1 => spec_StripFirst a1 n1 c1 xs s W h1 (by omega) (by unfold maxLen; omega)
    clear o1
    cases hv : (rtsS xs s).head? with
    | none =>
      rw [hv] at P1 P2
      simp only [Option.getD_none, Option.isSome_none] at P1 P2
      have P1 := Lib.hid P1
      have P2 := Lib.hid P2
      clear hv
      go_wp2_with fail
      refine (P1.out w1 i1).mono ?_
      rintro e w2 ⟨a2, n2, c2, rfl, o2, b2⟩
      go_wp2_with fail
      refine (P2.out w2 (i1.below b2)).mono ?_
      rintro e w3 ⟨a3, n3, c3, rfl, o3, b3⟩
      go_wp2_with fail
      refine (sameInts_same a2 a3 n2 n3 c2 c3 _ w3 (o2.below b3).ints o3.ints).mono ?_
      rintro e w4 ⟨rfl, b4⟩
      go_wp2_with fail
      refine (sameInts_same a2 a3 n2 n3 c2 c3 _ w4 ((o2.below b3).below b4).ints (o3.below b4).ints).mono ?_
      rintro e w5 ⟨rfl, b5⟩
      go_wp2_with fail
      go_ret
      have B2 := Below.call B1 B1.size b2
      have B3 := Below.call B2 B2.size b3
      have B4 := Below.call B3 B3.size b4
      exact ⟨rfl, Below.call B4 B4.size b5⟩
    | some L =>
      rw [hv] at P1 P2
      simp only [Option.getD_some, Option.isSome_some] at P1 P2
      have P1 := Lib.hid P1
      have P2 := Lib.hid P2
      obtain ⟨hst, hLl, hLp, _⟩ := rtsS_mem.1 (List.mem_of_head? hv)
      obtain ⟨hst1, _, _⟩ := stripB_len hst
      obtain ⟨hl1, hl6⟩ := lengthsB_len hst1
      rw [i1.length] at hl1 hl6 hLl
      have P3 : Hid (∀ (i : Nat), i + 1 < n1 → L[i + 1]?.getD 0 < L[i]?.getD 0 → ∀ (W : World) (A : Option Addr) (c : Nat), Ints W a1 n1 c1 xs → Ints W A n1 c ((L.set i (L[i + 1]?.getD 0)).set (i + 1) (L[i]?.getD 0)) → Calls Try.prog 31 #[.slice a1 n1 c1, .string s, .slice A n1 c] W (RVal W (.bool false))) := fun i hi hlt W A c h1 h2 => by
        have := impl_StripLayers a1 A n1 c1 n1 c xs _ s W h1 (by unfold maxLen; omega) h2 (by omega)
        rwa [show layB xs s ((L.set i (L[i + 1]?.getD 0)).set (i + 1) (L[i]?.getD 0)) = strLB xs s ((L.set i (L[i + 1]?.getD 0)).set (i + 1) (L[i]?.getD 0)) from rfl, first_least hv (swap_lex i L (by omega) hlt)] at this
      have P4 : Hid (∀ (W : World) (A B : Option Addr) (m c d : Nat), m = n1 → Ints W A m c (List.replicate n1 1) → Ints W B n1 d (upI n1) → Calls Try.prog 31 #[.slice A m c, .string (zigS (n1 - 1)), .slice B n1 d] W (RVal W (.bool true))) := fun W A B m c d hm h1 h2 => by
        subst hm
        have hz := zig_right (ones_lengths hl1 hl6)
        rw [List.length_replicate] at hz
        have := impl_StripLayers A B m c m d (List.replicate m 1) (upI m) (zigS (m - 1)) W h1 (by rw [zigS_size]; unfold maxLen; omega) h2 (by omega)
        rwa [show layB (List.replicate m 1) (zigS (m - 1)) (upI m) = strLB (List.replicate m 1) (zigS (m - 1)) (upI m) from rfl, hz] at this
      have HLL := Lib.hid hLl
      clear hst hst1 hv hLp hLl
      go_wp2_with fail
      refine (P1.out w1 i1).mono ?_
      rintro e w2 ⟨a2, n2, c2, rfl, o2, b2⟩
      obtain rfl : n1 = n2 := HLL.out.symm.trans o2.length
      go_wp2_with fail
      refine (P2.out w2 (i1.below b2)).mono ?_
      rintro e w3 ⟨a3, n3, c3, rfl, o3, b3⟩
      go_wp2_with fail
      refine (sameInts_same a2 a3 n1 n3 c2 c3 _ w3 (o2.below b3).ints o3.ints).mono ?_
      rintro e w4 ⟨rfl, b4⟩
      have i4 := ((i1.below b2).below b3).below b4
      have o4 := ((o2.below b3).below b4).ints
      have hc2 := o2.ints.le_cap
      have B2 := Below.call B1 B1.size b2
      have B3 := Below.call B2 B2.size b3
      have B4 := Below.call B3 B3.size b4
      clear i1 o2 o3 b2 b3 b4 B2 B3 P1 P2
      go_wp2_with fail
      go_loopw [9] (fun i wr => ∃ k : Nat, k + 1 ≤ n1 ∧ i = .int .i64 k ∧ Below w4.heap.size w4 wr) (fun i _ => n1 - (intOf i).toNat)
      case atStart => exact ⟨0, hl1, rfl, Below.refl _ _⟩
      case round =>
        obtain ⟨k, hk, rfl, hB⟩ := hrel
        by_cases hlt : k + 1 < n1
        · obtain ⟨bb, off, ea, hc⟩ := o4.cells (by omega)
          subst ea
          have hk0 := hc k (by omega)
          have hk1 := hc (k + 1) hlt
          have HK0 := Lib.hid hk0
          have HK1 := Lib.hid hk1
          clear hc
          have hkI : (k : Int) + 1 < (n1 : Int) := by omega
          have hkI2 : (k : Int) < (n1 : Int) := by omega
          have hkt : ((k : Int) + 1).toNat = k + 1 := by omega
          have hki0 : 0 ≤ (k : Int) + 1 := by omega
          have hkw : IntKind.i64.wrap ((k : Int) + 1) = (k : Int) + 1 := IntWalk.i64_in _ (by omega)
          have P3' := P3.out k hlt
          have hbr := o4.below hB
          have hkl : k + 1 < L.length := by rw [HLL.out]; exact hlt
          generalize hX0 : L[k]?.getD 0 = X0 at hk0 hk1 HK0 HK1 P3'
          generalize hX1 : L[k + 1]?.getD 0 = X1 at hk0 hk1 HK0 HK1 P3'
          clear hX0 hX1
          by_cases hsw : X1 < X0
          · have P3' := Lib.hid (P3' hsw)
            go_wp2_with (at_builtin; (refine wpList_append_ints tyInts rfl (.tmp 63) (.tmp 64) rfl w4.heap.size (some ⟨wr.heap.size, 0, none⟩) 0 0 [] rfl (OwnI.mono (OwnI.lit0 wr (Nat.le_refl _)) hB.size) _ n1 c2 L rfl (hbr.below ((Below.refl _ _).alloc (Nat.le_refl _) _)) (by omega) (by have := hB.size; simp; omega) ?_); intro A5 c5 w5 o5 g5 e5; have b5 := Below.appended (hB.alloc hB.size _) (by have := hB.size; simp; omega) g5 (fun x e => by cases e; exact hB.size); clear g5 e5; simp only [Nat.zero_add, List.nil_append] at o5; obtain ⟨G, e5, hG⟩ := o5.some_head hl1; subst e5; have q0 := cell_below b5 HK0.out; have q1 := cell_below b5 HK1.out; have f0 := OwnI.frozen o5 k; have f1 := OwnI.frozen o5 (k + 1); have z0 := OwnI.cell o5 (j := k) (by omega); have z1 := OwnI.cell o5 (j := k + 1) hlt; have ob := World.block_lt_of_cell? _ _ HK0.out; have q0' := (World.cell?_setCell_other w5 ⟨G, k, none⟩ ⟨bb, off + k, none⟩ (.int .i64 X1) (by intro e; injection e with e _ _; simp only at ob; omega)).trans q0; have z1' := (World.cell?_setCell_other w5 ⟨G, k, none⟩ ⟨G, k + 1, none⟩ (.int .i64 X1) (by intro e; injection e with _ e _; omega)).trans z1)
            have o6 := (o5.stored k X1).stored (k + 1) X0
            have b6 := (b5.setCell (p := ⟨G, k, none⟩) hG (.int .i64 X1)).setCell (p := ⟨G, k + 1, none⟩) hG (.int .i64 X0)
            have zk := OwnI.cell o6 (j := k) (by omega)
            rw [set_two hkl] at zk
            have q6 := cell_below b6 HK0.out
            have i6 := i4.below b6
            generalize ((w5.setCell ⟨G, k, none⟩ (.int .i64 X1)).setCell ⟨G, k + 1, none⟩ (.int .i64 X0)) = W6 at o6 b6 zk q6 i6 ⊢
            clear q0 q1 f0 f1 z0 z1 q0' z1' b5 o5 hk0 hk1
            have BW := B4.trans (b6.mono B4.size)
            clear hle hmx hn hx H1
            go_region_held3 (fun w' => w'.cell? ⟨G, k, none⟩ = some (.int .i64 X1) ∧ w'.cell? ⟨bb, off + k, none⟩ = some (.int .i64 X0)) (first | exact ⟨zk, q6⟩ | exact ⟨zk', q6'⟩) (first
              | (go_at_call 31; refine (P3'.out _ _ _ i6.drew o6.ints.drew).mono ?_; rintro e W7 ⟨rfl, b7⟩; have zk' := cell_below b7 zk; have q6' := cell_below b7 q6))
            go_wp2_with fail
            go_roundw
            case rel => exact ⟨k + 1, by omega, by go_num, b6.drew.trans (b7.mono b6.size)⟩
            case measure => simp [intOf]; omega
          · have hswd : decide (X1 < X0) = false := decide_eq_false hsw
            go_wp2_with (at_builtin; (refine wpList_append_ints tyInts rfl (.tmp 63) (.tmp 64) rfl w4.heap.size (some ⟨wr.heap.size, 0, none⟩) 0 0 [] rfl (OwnI.mono (OwnI.lit0 wr (Nat.le_refl _)) hB.size) _ n1 c2 L rfl (hbr.below ((Below.refl _ _).alloc (Nat.le_refl _) _)) (by omega) (by have := hB.size; simp; omega) ?_); intro A5 c5 w5 o5 g5 e5; have b5 := Below.appended (hB.alloc hB.size _) (by have := hB.size; simp; omega) g5 (fun x e => by cases e; exact hB.size); clear g5 e5; simp only [Nat.zero_add, List.nil_append] at o5; obtain ⟨G, e5, hG⟩ := o5.some_head hl1; subst e5; have q0 := cell_below b5 HK0.out; have q1 := cell_below b5 HK1.out; have f0 := OwnI.frozen o5 k; have f1 := OwnI.frozen o5 (k + 1); have z0 := OwnI.cell o5 (j := k) (by omega); have z1 := OwnI.cell o5 (j := k + 1) hlt; have ob := World.block_lt_of_cell? _ _ HK0.out; have q0' := (World.cell?_setCell_other w5 ⟨G, k, none⟩ ⟨bb, off + k, none⟩ (.int .i64 X1) (by intro e; injection e with e _ _; simp only at ob; omega)).trans q0; have z1' := (World.cell?_setCell_other w5 ⟨G, k, none⟩ ⟨G, k + 1, none⟩ (.int .i64 X1) (by intro e; injection e with _ e _; omega)).trans z1)
            have o6 := (o5.stored k X1).stored (k + 1) X0
            have b6 := (b5.setCell (p := ⟨G, k, none⟩) hG (.int .i64 X1)).setCell (p := ⟨G, k + 1, none⟩) hG (.int .i64 X0)
            have zk := OwnI.cell o6 (j := k) (by omega)
            rw [set_two hkl] at zk
            have q6 := cell_below b6 HK0.out
            have i6 := i4.below b6
            generalize ((w5.setCell ⟨G, k, none⟩ (.int .i64 X1)).setCell ⟨G, k + 1, none⟩ (.int .i64 X0)) = W6 at o6 b6 zk q6 i6 ⊢
            clear q0 q1 f0 f1 z0 z1 q0' z1' b5 o5 hk0 hk1
            go_quiet (fail)
            go_wp2_with fail
            go_roundw
            case rel => exact ⟨k + 1, by omega, by go_num, below_drewN b6 _⟩
            case measure => simp [intOf]; omega
        · obtain rfl : n1 = k + 1 := by omega
          have hBr := B4.trans (hB.mono B4.size)
          have i5 := i4.below hB
          obtain ⟨N, hN⟩ : ∃ N, k + 1 = N := ⟨_, rfl⟩
          rw [hN] at i5 P4 hl1 hl6 hn1 hle1 hlt o4 hc2 ⊢
          have hltI : ¬ (k : Int) + 1 < (N : Int) := by omega
          have hkw2 : IntKind.i64.wrap ((k : Int) + 1) = (k : Int) + 1 := IntWalk.i64_in _ (by omega)
          clear P3 o4 HLL
          obtain ⟨wo, rfl⟩ : ∃ wo : World, wo = wr := ⟨_, rfl⟩
          go_wp2_with fail
          go_loopw [12, 13, 14] (fun f v i wr => ∃ (k : Nat) (A : Option Addr) (c : Nat), k ≤ N ∧ i = .int .i64 k ∧ f = .string (zigS (k - 1)) ∧ v = .slice A k c ∧ OwnI wr wo.heap.size A k c (upI k) ∧ Below wo.heap.size wo wr) (fun _ _ i _ => N - (intOf i).toNat)
          case atStart => exact ⟨0, _, _, Nat.zero_le _, rfl, rfl, rfl, OwnI.lit0 wo (Nat.le_refl _), (Below.refl _ _).alloc (Nat.le_refl _) _⟩
          case round =>
            obtain ⟨k, A, c, hk, rfl, rfl, rfl, HO, hB2⟩ := hrel
            by_cases hlt : k < N
            · have hzs : (zigS (k - 1)).size ≤ 6 := by rw [zigS_size]; omega
              have HU := Lib.hid (upI_succ' k)
              by_cases k0 : k = 0
              · subst k0
                go_wp2_with (at_builtin; (refine wpList_append_int tyInts rfl (.tmp 105) (.tmp 107) rfl wo.heap.size A _ c _ rfl (HO.below ((Below.refl _ _).alloc (Nat.le_refl _) _)) wr.heap.size 0 rfl (by simp) (by omega) (by have := hB2.size; simp; omega) ?_); intro A2 c2 w2 o2 g2 e2; have b2 := Below.appended (hB2.alloc hB2.size _) (by have := hB2.size; simp; omega) g2 HO.base_le; clear g2 e2)
                go_roundw
                case rel => exact ⟨1, A2, c2, by omega, by go_num, rfl, rfl, by rw [HU.out]; exact o2, b2⟩
                case measure => simp [intOf]; omega
              · have hk0 : (0 : Int) < (k : Int) := by omega
                by_cases hp : k % 2 = 0
                · have HS := Lib.hid (zigS_even' hp (by omega))
                  have hp3 : ((k : Int) % 2 == 1) = false := by rw [beq_eq_false_iff_ne]; omega
                  have hp2 : ((k : Int) % 2 == 0) = true := by rw [beq_iff_eq]; omega
                  go_wp2_with (at_builtin; (refine wpList_append_int tyInts rfl (.tmp 105) (.tmp 107) rfl wo.heap.size A k c _ rfl (HO.below ((Below.refl _ _).alloc (Nat.le_refl _) _)) wr.heap.size (k : Int) rfl (by simp) (by omega) (by have := hB2.size; simp; omega) ?_); intro A2 c2 w2 o2 g2 e2; have b2 := Below.appended (hB2.alloc hB2.size _) (by have := hB2.size; simp; omega) g2 HO.base_le; clear g2 e2)
                  go_roundw
                  case rel => exact ⟨k + 1, A2, c2, by omega, by go_num, by rw [HS.out], rfl, by rw [HU.out]; exact o2, b2⟩
                  case measure => simp [intOf]; omega
                · have HS := Lib.hid (zigS_odd' (show k % 2 = 1 by omega))
                  have hp1 : k % 2 = 1 := by omega
                  have hp2 : ((k : Int) % 2 == 1) = true := by rw [beq_iff_eq]; omega
                  have hp3 : ((k : Int) % 2 == 0) = false := by rw [beq_eq_false_iff_ne]; omega
                  go_wp2_with (at_builtin; (refine wpList_append_int tyInts rfl (.tmp 105) (.tmp 107) rfl wo.heap.size A k c _ rfl (HO.below ((Below.refl _ _).alloc (Nat.le_refl _) _)) wr.heap.size (k : Int) rfl (by simp) (by omega) (by have := hB2.size; simp; omega) ?_); intro A2 c2 w2 o2 g2 e2; have b2 := Below.appended (hB2.alloc hB2.size _) (by have := hB2.size; simp; omega) g2 HO.base_le; clear g2 e2)
                  go_roundw
                  case rel => exact ⟨k + 1, A2, c2, by omega, by go_num, by rw [HS.out], rfl, by rw [HU.out]; exact o2, b2⟩
                  case measure => simp [intOf]; omega
            · obtain rfl : k = N := by omega
              have hBz := hBr.trans (hB2.mono hBr.size)
              generalize zigS (k - 1) = z at P4 ⊢
              go_wp2_with fail
              refine (laws_ones k _ (by omega)).mono ?_
              rintro e w6 ⟨a6, n6, c6, rfl, o6, b6⟩
              have B6 := Below.call hBz hBz.size b6
              go_wp2_with fail
              refine (P4.out _ _ _ _ _ _ (by rw [← o6.length, List.length_replicate]) o6.ints (HO.below b6).ints).mono ?_
              rintro e w9 ⟨rfl, b9⟩
              go_wp2_with fail
              go_ret
              exact ⟨rfl, Below.call B6 B6.size b9⟩
  · go_enter Try.func13, Try.ntmps13
    go_wp2_with fail
    go_ret
    exact ⟨rfl, Below.refl _ _⟩

end Go.Proofs.Yteigbpmfjiofiaa
