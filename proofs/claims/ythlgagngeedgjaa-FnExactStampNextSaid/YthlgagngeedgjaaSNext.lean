/-
  What the program's StampNext computes, by a walk.
-/
import Derived.Test.YthlgagngeedgjaaSRank
import Derived.Test.YthlgagngeedgjaaPlainN
import Derived.RegionTactic
namespace Go.Proofs.Ythlgagngeedgjaa
open Go.RowKit Go.Shelf
attribute [local go_sem] Oper.semAt_some

theorem KB.weak {M M' : Nat → Prop} {A B : World} (h : KB M A B) (hm : ∀ g, M g → M' g) : KB M' A B := ⟨h.os, h.tape, h.output, h.size, fun g hg hn => h.block g hg fun q => hn (hm g q)⟩

theorem impl_StampNext_no (a : Option Addr) (n cap : Nat) (xs : List Int) (w : World) (h : Ints w a n cap xs) (hv : possB xs = false) :
    Calls Try.prog 19 #[.slice a n cap] w (RIntsB w [] false) := by
  have H1 := impl_StampPossible a n cap xs (w.alloc (.cells #[.slice a n cap] 24)) (h.below ((Below.refl _ _).alloc (Nat.le_refl _) _))
  rw [hv] at H1
  have H1 := Lib.hid H1
  clear hv
  go_enter Try.func19, Try.ntmps19
  go_wp2_with (go_at_call 24; refine H1.out.mono ?_; rintro e w1 ⟨rfl, b1⟩)
  have b2 := Below.call ((Below.refl _ w).alloc (Nat.le_refl _) (.cells #[.slice a n cap] 24)) (by simp) b1
  go_ret2
  exact ⟨_, _, _, rfl, OwnI.lit0 w1 b2.size, b2.alloc b2.size _⟩

theorem no_bool {p : Prop} {b : Bool} (h : some undef = some (Value.bool b)) : p := by cases h

/-- What the search has found: nothing yet, or a stack. -/
def NxI (w : World) (B gl gn n : Nat) (acc : Option (List Int)) : Prop :=
  (acc = none ∧ BoxV w gn (.slice (some ⟨gl, 0, none⟩) 0 0) ∧ BoxV w (gn + 1) (.bool false) ∧ OwnI w B (some ⟨gl, 0, none⟩) 0 0 []) ∨
  ∃ t A c, acc = some t ∧ BoxV w gn (.slice A n c) ∧ BoxV w (gn + 1) (.bool true) ∧ OwnI w B A n c t ∧ (∀ x, A = some x → x.block ≠ gn ∧ x.block ≠ gn + 1)
theorem NxI.kc {w w' : World} {B B' gl gn n : Nat} {acc : Option (List Int)} (h : NxI w B gl gn n acc) (hk : Kc B' w w') (hg : gn + 1 < B') : NxI w' B gl gn n acc := by
  rcases h with ⟨e, h1, h2, h3⟩ | ⟨t, A, c, e, h1, h2, h3, h4⟩
  · exact .inl ⟨e, h1.keep hk.below (by omega), h2.keep hk.below (by omega), h3.kc hk⟩
  · exact .inr ⟨t, A, c, e, h1.keep hk.below (by omega), h2.keep hk.below (by omega), h3.kc hk, h4⟩

set_option maxRecDepth 100000 in
set_option maxHeartbeats 4000000 in
theorem impl_StampNext_yes (a : Option Addr) (N cap : Nat) (xs : List Int) (w : World) (h : Ints w a (N + 1) cap xs) (hv : possB xs = true) :
    Calls Try.prog 19 #[.slice a (N + 1 : Nat) cap] w (RIntsB w ((nextF xs (stk (N + 1))).getD []) (nextF xs (stk (N + 1))).isSome) := by
  have hl := possB_len hv
  rw [h.length] at hl
  have hN : N ≤ 6 := by omega
  have bb : Below w.heap.size w (w.alloc (.cells #[.slice a (N + 1) cap] 24)) := (Below.refl _ _).alloc (Nat.le_refl _) _
  have H1 := impl_StampPossible a (N + 1) cap xs (w.alloc (.cells #[.slice a (N + 1) cap] 24)) (h.below bb)
  rw [hv] at H1
  have H1 := Lib.hid H1
  have BX := BoxV.new w (.slice a (N + 1) cap) 24 rfl
  have hle := h.le_cap
  clear hv hl
  obtain ⟨W0, hW0⟩ : ∃ W0, w.alloc (.cells #[.slice a (N + 1) cap] 24) = W0 := ⟨_, rfl⟩
  have hs0 : W0.heap.size = w.heap.size + 1 := by rw [← hW0]; simp
  rw [hW0] at bb H1 BX
  have cX := BX.1
  obtain ⟨fd⟩ : Nonempty Nat := ⟨3⟩
  refine callsIn_wide.1 (callsIn_of_wp_marks (n := fd) Try.func19 rfl trivial ?_ rfl)
  simp only [Try.ntmps19, List.size_toArray, List.length_cons, List.length_nil, Nat.reduceAdd, Nat.reduceSub, Array.replicate_succ, Array.replicate_zero, List.push_toArray, List.append_toArray, List.nil_append, List.cons_append]
  gi_wp2_with fail
  refine ⟨trivial, (fun h => by cases h), (callsIn_wide.2 H1.out).mono ?_⟩
  rintro e w1 ⟨rfl, b1⟩
  have hz1 := b1.size
  have B1 := Below.call bb (by omega) b1
  have X1 := BX.below b1
  have cX1 := X1.1
  have cX4 := (((X1.alloc (.cells #[] 3)).alloc (.cells #[.slice (some ⟨w1.heap.size, 0, none⟩) 0 0] 24)).alloc (.cells #[.bool false] 4)).1
  gi_wp2_with fail
  refine ⟨trivial, (fun h => by cases h), (callsIn_wide.2 (impl_stacksOf _ _)).mono ?_⟩
  rintro e w' ⟨rfl, rfl⟩
  gi_wp2_with fail
  have cG : BoxV ((((w1.alloc (.cells #[] 3)).alloc (.cells #[.slice (some ⟨w1.heap.size, 0, none⟩) 0 0] 24)).alloc (.cells #[.bool false] 4)).alloc (.cells #[.int .i64 ((N : Int) + 1)] 3)) (w1.heap.size + 1) (.slice (some ⟨w1.heap.size, 0, none⟩) 0 0) := ((BoxV.new (w1.alloc (.cells #[] 3)) _ _ (by simp)).alloc _).alloc _
  have cF : BoxV ((((w1.alloc (.cells #[] 3)).alloc (.cells #[.slice (some ⟨w1.heap.size, 0, none⟩) 0 0] 24)).alloc (.cells #[.bool false] 4)).alloc (.cells #[.int .i64 ((N : Int) + 1)] 3)) (w1.heap.size + 1 + 1) (.bool false) := (BoxV.new ((w1.alloc (.cells #[] 3)).alloc (.cells #[.slice (some ⟨w1.heap.size, 0, none⟩) 0 0] 24)) _ _ (by simp)).alloc _
  have cN : BoxV ((((w1.alloc (.cells #[] 3)).alloc (.cells #[.slice (some ⟨w1.heap.size, 0, none⟩) 0 0] 24)).alloc (.cells #[.bool false] 4)).alloc (.cells #[.int .i64 ((N : Int) + 1)] 3)) (w1.heap.size + 1 + 1 + 1) (.int .i64 ((N + 1 : Nat) : Int)) := BoxV.new (((w1.alloc (.cells #[] 3)).alloc (.cells #[.slice (some ⟨w1.heap.size, 0, none⟩) 0 0] 24)).alloc (.cells #[.bool false] 4)) (.int .i64 ((N + 1 : Nat) : Int)) 3 (by simp)
  have cL : BoxV ((((w1.alloc (.cells #[] 3)).alloc (.cells #[.slice (some ⟨w1.heap.size, 0, none⟩) 0 0] 24)).alloc (.cells #[.bool false] 4)).alloc (.cells #[.int .i64 ((N : Int) + 1)] 3)) w.heap.size (.slice a (N + 1) cap) := (((X1.alloc _).alloc _).alloc _).alloc _
  have oO : OwnI ((((w1.alloc (.cells #[] 3)).alloc (.cells #[.slice (some ⟨w1.heap.size, 0, none⟩) 0 0] 24)).alloc (.cells #[.bool false] 4)).alloc (.cells #[.int .i64 ((N : Int) + 1)] 3)) w.heap.size (some ⟨w1.heap.size, 0, none⟩) 0 0 [] := ((((OwnI.lit0 w1 B1.size).below ((Below.refl _ _).alloc (Nat.le_refl _) _)).below ((Below.refl _ _).alloc (Nat.le_refl _) _)).below ((Below.refl _ _).alloc (Nat.le_refl _) _))
  have sz : ((((w1.alloc (.cells #[] 3)).alloc (.cells #[.slice (some ⟨w1.heap.size, 0, none⟩) 0 0] 24)).alloc (.cells #[.bool false] 4)).alloc (.cells #[.int .i64 ((N : Int) + 1)] 3)).heap.size = w1.heap.size + 4 := by simp
  have bA : Below w.heap.size w ((((w1.alloc (.cells #[] 3)).alloc (.cells #[.slice (some ⟨w1.heap.size, 0, none⟩) 0 0] 24)).alloc (.cells #[.bool false] 4)).alloc (.cells #[.int .i64 ((N : Int) + 1)] 3)) := (((B1.alloc (by omega) _).alloc (by simp; omega) _).alloc (by simp; omega) _).alloc (by simp; omega) _
  generalize ((((w1.alloc (.cells #[] 3)).alloc (.cells #[.slice (some ⟨w1.heap.size, 0, none⟩) 0 0] 24)).alloc (.cells #[.bool false] 4)).alloc (.cells #[.int .i64 ((N : Int) + 1)] 3)) = Wa at cG cF cN cL oO sz bA ⊢
  have st0 : NxI Wa w.heap.size w1.heap.size (w1.heap.size + 1) (N + 1) (nextF xs ((stk (N + 1)).take 0)) := .inl ⟨rfl, cG, cF, oO⟩
  clear cX1 X1 cX BX cX4 cG cF oO
  refine wp_rangeM (M := fun g => g = w1.heap.size + 1 ∨ g = w1.heap.size + 1 + 1) (gf := 102) (lb := #[.pointer (some ⟨w1.heap.size + 1 + 1 + 1, 0, none⟩)]) rfl (enters_of Try.func102 (by kernel_rfl) rfl) (stk (N + 1))
    (fun g h => by omega) (fun W1 hb1 => seq_stacks N hN _ (w1.heap.size + 1 + 1 + 1) W1 (fun g h => by have := hb1.size; omega) (cell_below hb1 cN.1) (by omega)) rfl
    (fun k W' => NxI W' w.heap.size w1.heap.size (w1.heap.size + 1) (N + 1) (nextF xs ((stk (N + 1)).take k)) ∧ BoxV W' w.heap.size (.slice a (N + 1) cap) ∧ Below w.heap.size w W')
    (fun k A B hI hs hb => ⟨hI.1.kc hb (by omega), hI.2.1.keep hb.below (by omega), hI.2.2.trans (hb.below.mono (by omega))⟩)
    ⟨st0, cL, bA⟩ (fun v => { tmps := #[.slice a (N + 1) cap, .pointer (some ⟨w.heap.size, 0, none⟩), .slice none 0 0, .bool false, .pointer (some ⟨w1.heap.size + 1, 0, none⟩), .pointer (some ⟨w1.heap.size + 1 + 1, 0, none⟩), v, .slice a (N + 1) cap, .bool true, .bool false, undef, .slice (some ⟨w1.heap.size, 0, none⟩) 0 0, .slice a (N + 1) cap, .int .i64 ((N : Int) + 1), .func (.func 102) #[] #[.pointer (some ⟨w1.heap.size + 1 + 1 + 1, 0, none⟩)], v, undef, undef, undef, undef, undef, undef, undef, undef, undef, undef, undef, undef, undef, undef, undef, undef, undef], defers := [] }) ?assign ?body ?done
  case assign =>
    intro lr v W' K hK m'
    gi_wp2
    first | exact hK | (simp; exact hK)
  case body =>
    intro lr k hk A q c Wb hszb hIk hR m'
    obtain ⟨hnx, hbx, hBw⟩ := hIk
    have hcx := hbx.1
    have hks : (stk (N + 1))[k]?.getD [] ∈ stk (N + 1) := by rw [List.getElem?_eq_getElem hk]; exact List.getElem_mem hk
    have hsl := stk_length (by omega) (by omega) hks
    obtain rfl : N + 1 = q := hsl.symm.trans hR.1.length
    have HST := Lib.hid (show nextF xs ((stk (N + 1)).take (k + 1)) = nextStep xs (nextF xs ((stk (N + 1)).take k)) ((stk (N + 1))[k]?.getD []) by rw [takeR_snoc _ _ [] hk, nextF_snoc])
    have hOS := hR.2.2
    have hNM := hR.2.1 (by omega)
    have P4 := lib_Compare A a (N + 1) c cap _ xs Wb hR.1 (h.below hBw) (by omega)
    have hpos := cmpL_pos ((stk (N + 1))[k]?.getD []) xs
    clear hR hks
    generalize (stk (N + 1))[k]?.getD [] = s at HST P4 hpos hOS hsl
    generalize nextF xs ((stk (N + 1)).take k) = acc at HST hnx
    have P4 := Lib.hid P4
    have HSL := Lib.hid hsl
    clear hsl
    have hOS' := hOS.mono (base' := w.heap.size) (by omega)
    cases he : lexB xs s with
    | false =>
      rw [he] at hpos
      have hlt : ¬ 0 < cmpL s xs := fun q => by have := hpos.1 q; cases this
      have HS : Hid (nextF xs ((stk (N + 1)).take (k + 1)) = acc) := by
        unfold Hid
        rw [HST.out]
        unfold nextStep
        rw [if_neg (by rw [he]; simp)]
      clear he hpos HST
      gi_wp2_with fail
      refine ⟨trivial, (fun h => by cases h), (CallsIn.inRound lr (callsIn_wide.2 P4.out)).mono ?_⟩
      rintro e w5 ⟨rfl, rfl⟩
      gi_wp2_with fail
      all_goals (try (apply no_bool; assumption))
      all_goals
        refine ⟨trivial, ?_⟩
        gi_wp2_with fail
        all_goals (try (apply no_bool; assumption))
        all_goals exact ⟨KB.refl _ Wb, by rw [HS.out]; exact hnx, hbx, hBw⟩
    | true =>
      have hgt : 0 < cmpL s xs := hpos.2 he
      have HE := Lib.hid he
      clear he hpos
      rcases hnx with ⟨rfl, hG, hF, hO⟩ | ⟨t, A', c', rfl, hG, hF, hO, hne⟩
      · have HS : Hid (nextF xs ((stk (N + 1)).take (k + 1)) = some s) := by
          unfold Hid
          rw [HST.out]
          unfold nextStep
          rw [if_pos ⟨HE.out, fun t e => by cases e⟩]
        clear HST
        obtain ⟨hF1, hF2⟩ := id hF
        obtain ⟨hG1, hG2⟩ := id hG
        gi_wp2_with fail
        refine ⟨trivial, (fun h => by cases h), (CallsIn.inRound lr (callsIn_wide.2 P4.out)).mono ?_⟩
        rintro e w5 ⟨rfl, rfl⟩
        gi_wp2_with fail
        refine ⟨trivial, ?_⟩
        gi_wp2_with fail
        refine ⟨((KB.setCell Wb (w1.heap.size + 1) 0 _).weak fun g q => .inl q).trans ((KB.setCell _ (w1.heap.size + 1 + 1) 0 _).weak fun g q => .inr q), by
          rw [HS.out]
          exact .inr ⟨s, A, c, rfl, (hG.set _).other _ (by omega), (hF.other _ (by omega)).set _, (hOS'.put_other _ fun x hx q => hNM x hx (.inl q)).put_other _ fun x hx q => hNM x hx (.inr q), fun x hx => ⟨fun q => hNM x hx (.inl q), fun q => hNM x hx (.inr q)⟩⟩, (hbx.other _ (by omega)).other _ (by omega), (hBw.setCell (p := ⟨w1.heap.size + 1, 0, none⟩) (by simp only; omega) _).setCell (p := ⟨w1.heap.size + 1 + 1, 0, none⟩) (by simp only; omega) _⟩
      · obtain ⟨hF1, hF2⟩ := id hF
        obtain ⟨hG1, hG2⟩ := id hG
        have P5 := lib_Compare A A' (N + 1) c c' s t Wb hOS.ints hO.ints (by omega)
        have hneg := cmpL_neg s t
        have P5 := Lib.hid P5
        cases he2 : lexB s t with
        | false =>
          rw [he2] at hneg
          have hlt2 : ¬ cmpL s t < 0 := fun q => by have := hneg.1 q; cases this
          have HS : Hid (nextF xs ((stk (N + 1)).take (k + 1)) = some t) := by
            unfold Hid
            rw [HST.out]
            unfold nextStep
            rw [if_neg fun q => by have := q.2 t rfl; rw [he2] at this; cases this]
          clear he2 hneg HST
          gi_wp2_with fail
          refine ⟨trivial, (fun h => by cases h), (CallsIn.inRound lr (callsIn_wide.2 P4.out)).mono ?_⟩
          rintro e w5 ⟨rfl, rfl⟩
          gi_wp2_with fail
          refine ⟨trivial, (fun h => by cases h), (CallsIn.inRound lr (callsIn_wide.2 P5.out)).mono ?_⟩
          rintro e w5 ⟨rfl, rfl⟩
          gi_wp2_with fail
          exact ⟨KB.refl _ Wb, by rw [HS.out]; exact .inr ⟨t, A', c', rfl, hG, hF, hO, hne⟩, hbx, hBw⟩
        | true =>
          have hlt2 : cmpL s t < 0 := hneg.2 he2
          have HS : Hid (nextF xs ((stk (N + 1)).take (k + 1)) = some s) := by
            unfold Hid
            rw [HST.out]
            unfold nextStep
            rw [if_pos ⟨HE.out, fun u e => by cases e; exact he2⟩]
          clear he2 hneg HST
          gi_wp2_with fail
          refine ⟨trivial, (fun h => by cases h), (CallsIn.inRound lr (callsIn_wide.2 P4.out)).mono ?_⟩
          rintro e w5 ⟨rfl, rfl⟩
          gi_wp2_with fail
          refine ⟨trivial, (fun h => by cases h), (CallsIn.inRound lr (callsIn_wide.2 P5.out)).mono ?_⟩
          rintro e w5 ⟨rfl, rfl⟩
          gi_wp2_with fail
          refine ⟨((KB.setCell Wb (w1.heap.size + 1) 0 _).weak fun g q => .inl q).trans ((KB.setCell _ (w1.heap.size + 1 + 1) 0 _).weak fun g q => .inr q), by
            rw [HS.out]
            exact .inr ⟨s, A, c, rfl, (hG.set _).other _ (by omega), (hF.other _ (by omega)).set _, (hOS'.put_other _ fun x hx q => hNM x hx (.inl q)).put_other _ fun x hx q => hNM x hx (.inr q), fun x hx => ⟨fun q => hNM x hx (.inl q), fun q => hNM x hx (.inr q)⟩⟩, (hbx.other _ (by omega)).other _ (by omega), (hBw.setCell (p := ⟨w1.heap.size + 1, 0, none⟩) (by simp only; omega) _).setCell (p := ⟨w1.heap.size + 1 + 1, 0, none⟩) (by simp only; omega) _⟩
  case done =>
    intro D Wd hD hId hkb hK
    obtain ⟨hnx, _, hBd⟩ := hId
    rw [List.take_length] at hnx
    have hz := hkb.size
    have HK := Lib.hid hK
    clear hK
    obtain ⟨acc, hacc⟩ : ∃ acc, nextF xs (stk (N + 1)) = acc := ⟨_, rfl⟩
    rw [hacc] at hnx
    have HACC := Lib.hid hacc
    clear hacc
    have hbD := below_putObj (B := w.heap.size) Wd.drew D (.deferred none) (by omega) (by simp; omega)
    rcases hnx with ⟨rfl, hG, hF, hO⟩ | ⟨t, A', c', rfl, hG, hF, hO, hne⟩
    · obtain ⟨hF1, hF2⟩ := id hF
      obtain ⟨hG1, hG2⟩ := id hG
      gi_wp2
      gi_region
      all_goals
        gi_wp2
        refine ⟨by simp, .inl ⟨_, _, rfl, run_takeDeferred HK.out, ?_⟩⟩
        refine ⟨_, results_tmp2 rfl _ _ _, some ⟨w1.heap.size, 0, none⟩, 0, 0, by rw [HACC.out]; rfl, ?_, ?_⟩
        · rw [HACC.out]
          exact (hO.kc (Kc.put (B := 0) Wd D (.deferred none) (Nat.zero_le _) (Nat.zero_le _) (fun c t f q => by rw [HK.out] at q; cases q))).drew
        · exact hBd.drew.trans hbD
    · obtain ⟨hF1, hF2⟩ := id hF
      obtain ⟨hG1, hG2⟩ := id hG
      gi_wp2
      gi_region
      all_goals
        gi_wp2
        refine ⟨by simp, .inl ⟨_, _, rfl, run_takeDeferred HK.out, ?_⟩⟩
        refine ⟨_, results_tmp2 rfl _ _ _, A', N + 1, c', by rw [HACC.out]; rfl, ?_, ?_⟩
        · rw [HACC.out]
          exact (hO.kc (Kc.put (B := 0) Wd D (.deferred none) (Nat.zero_le _) (Nat.zero_le _) (fun c t f q => by rw [HK.out] at q; cases q))).drew
        · exact hBd.drew.trans hbD

end Go.Proofs.Ythlgagngeedgjaa
