/-
  What the program's iterator over possible stacks hands over: the lists stk n, one after the other.
-/
import Derived.Test.YthlgagngeedgjaaStamp
import Derived.Test.YthlgagngeedgjaaPlainI
import Derived.Test.YthlgagngeedgjaaRange
import Derived.Shelf.RegionOpen
import Derived.TacticsInMore
import Derived.LoopNIn
import Derived.LoopIn
namespace Go.Proofs.Ythlgagngeedgjaa
open Go.RowKit Go.Shelf
attribute [local go_sem] Oper.semAt_some

theorem impl_stacksOf (x : Int) (w : World) :
    Calls Try.prog 61 #[.int .i64 x] w fun e w' => e = .returned (.func (.func 102) #[] #[.pointer (some ⟨w.heap.size, 0, none⟩)]) ∧ w.alloc (.cells #[.int .i64 x] 3) = w' := by
  go_enter Try.func61, Try.ntmps61
  go_wp2
  go_ret
  exact ⟨rfl, rfl⟩

set_option maxRecDepth 100000 in
set_option maxHeartbeats 2000000 in
theorem seq_one (M : Nat → Prop) (Bn : Nat) (W : World) (hM : ∀ g, M g → g < W.heap.size) (hc : W.cell? ⟨Bn, 0, none⟩ = some (.int .i64 1)) :
    SeqM Try.prog 102 #[.pointer (some ⟨Bn, 0, none⟩)] M (stk 1) W := by
  intro m l J hJ hY h0
  have hlt := World.block_lt_of_cell? _ _ hc
  have bb : Below W.heap.size W ((W.alloc (.cells #[.func (.yield l) #[] #[]] 30)).alloc (.cells #[.int .i64 0] 3)) := ((Below.refl _ W).alloc (Nat.le_refl _) _).alloc (by simp) _
  have hR : Reads M W.heap.size ((W.alloc (.cells #[.func (.yield l) #[] #[]] 30)).alloc (.cells #[.int .i64 0] 3)) (some ⟨W.heap.size + 1, 0, none⟩) 1 1 ((stk 1)[0]?.getD []) :=
    ⟨Ints.mk' rfl (Nat.le_refl _) (by unfold maxLen; omega) (fun i hi => by
      obtain rfl : i = 0 := by omega
      simp [stk]), fun _ x hx hm => (by cases hx; have := hM _ hm; simp at this; omega), by
      have := World.ownsRow_lit (size := 1) (e := 3) (base := W.heap.size) (W.alloc (.cells #[.func (.yield l) #[] #[]] 30)) #[.int .i64 0] 1 (by simp) (by unfold maxLen; omega) rfl
      simpa [OwnI, Own, stk] using this⟩
  obtain ⟨fn, tmps, assign, body, hy, hRn⟩ := hY 0 (by simp [stk]) (m - 1) (some ⟨W.heap.size + 1, 0, none⟩) 1 1 _ (hJ 0 W _ h0 (Nat.le_refl _) (Kc.ofB bb (Nat.le_refl _))) (by simp; omega) hR
  have hcY := cell_below bb hc
  have hcW := cell_below ((Below.refl _ W).alloc (Nat.le_refl _) (.cells #[.func (.yield l) #[] #[]] 30)) hc
  refine callsIn_of_wp Try.func102 rfl trivial ?_ rfl
  simp only [Try.ntmps102, List.size_toArray, List.length_cons, List.length_nil, Nat.reduceAdd, Nat.reduceSub, Array.replicate_succ, Array.replicate_zero, List.push_toArray, List.append_toArray, List.nil_append, List.cons_append]
  gi_wp2
  refine ⟨(fun h => by cases h), hRn.mono ?_⟩
  rintro e W' ⟨rfl, hj, hk⟩
  gi_wp2
  refine bodyPost_ret (results_none rfl _ _ _) rfl ?_
  exact ⟨⟨_, rfl⟩, hj, (KB.of_below bb).trans hk⟩

set_option maxRecDepth 100000 in
set_option maxHeartbeats 2000000 in
theorem seq_more (N : Nat) (hN : N ≤ 5) (ih : ∀ (M : Nat → Prop) (Bn : Nat) (W : World), (∀ g, M g → g < W.heap.size) → W.cell? ⟨Bn, 0, none⟩ = some (.int .i64 ((N + 1 : Nat) : Int)) → ¬ M Bn → SeqM Try.prog 102 #[.pointer (some ⟨Bn, 0, none⟩)] M (stk (N + 1)) W)
    (M : Nat → Prop) (Bn : Nat) (W : World) (hM : ∀ g, M g → g < W.heap.size) (hc : W.cell? ⟨Bn, 0, none⟩ = some (.int .i64 ((N + 2 : Nat) : Int))) (hMn : ¬ M Bn) :
    SeqM Try.prog 102 #[.pointer (some ⟨Bn, 0, none⟩)] M (stk (N + 2)) W := by
  intro m l J hJ hY h0
  have hlt := World.block_lt_of_cell? _ _ hc
  have hMY : ¬ M W.heap.size := fun h => by have := hM _ h; omega
  have hMb : ¬ M (W.heap.size + 1) := fun h => by have := hM _ h; omega
  obtain ⟨Wy, hWy⟩ : ∃ Wy, W.alloc (.cells #[.func (.yield l) #[] #[]] 30) = Wy := ⟨_, rfl⟩
  have hcW : Wy.cell? ⟨Bn, 0, none⟩ = some (.int .i64 ((N + 2 : Nat) : Int)) := by rw [← hWy]; exact cell_below ((Below.refl _ W).alloc (Nat.le_refl _) _) hc
  have hyW : Wy.cell? ⟨W.heap.size, 0, none⟩ = some (.func (.yield l) #[] #[]) := by rw [← hWy]; simp
  have hsz : Wy.heap.size = W.heap.size + 1 := by rw [← hWy]; simp
  have hbW : Below W.heap.size W Wy := by rw [← hWy]; exact (Below.refl _ W).alloc (Nat.le_refl _) _
  rw [show ((N + 2 : Nat) : Int) = (N : Int) + 2 by omega] at hcW hc
  have HM := Lib.hid hM
  have HJ := Lib.hid hJ
  have HY := Lib.hid hY
  have IH := Lib.hid ih
  clear hM hJ hY ih
  refine callsIn_of_wp_marks Try.func102 rfl trivial ?_ rfl
  simp only [Try.ntmps102, List.size_toArray, List.length_cons, List.length_nil, Nat.reduceAdd, Nat.reduceSub, Array.replicate_succ, Array.replicate_zero, List.push_toArray, List.append_toArray, List.nil_append, List.cons_append]
  gi_wp2_with fail
  refine ⟨trivial, (fun h => by cases h), (callsIn_wide.2 (impl_stacksOf _ _)).mono ?_⟩
  rintro e w' ⟨rfl, rfl⟩
  gi_wp2_with fail
  have hcb : (Wy.alloc (.cells #[.int .i64 ((N : Int) + 2 - 1)] 3)).cell? ⟨W.heap.size + 1, 0, none⟩ = some (.int .i64 ((N + 1 : Nat) : Int)) := by
    rw [← hsz, show ((N + 1 : Nat) : Int) = (N : Int) + 2 - 1 by omega]
    simp
  have hbA : Below W.heap.size W (Wy.alloc (.cells #[.int .i64 ((N : Int) + 2 - 1)] 3)) := hbW.alloc (by omega) _
  have hcA := cell_below ((Below.refl _ Wy).alloc (Nat.le_refl _) (.cells #[.int .i64 ((N : Int) + 2 - 1)] 3)) hcW
  have hyA := cell_below ((Below.refl _ Wy).alloc (Nat.le_refl _) (.cells #[.int .i64 ((N : Int) + 2 - 1)] 3)) hyW
  have hszA : (Wy.alloc (.cells #[.int .i64 ((N : Int) + 2 - 1)] 3)).heap.size = W.heap.size + 2 := by simp; omega
  generalize (Wy.alloc (.cells #[.int .i64 ((N : Int) + 2 - 1)] 3)) = Wa at hcb hbA hcA hyA hszA ⊢
  refine wp_rangeM (M := M) (gf := 102) (lb := #[.pointer (some ⟨W.heap.size + 1, 0, none⟩)]) rfl (enters_of Try.func102 (by kernel_rfl) rfl) (stk (N + 1))
    (fun g h => by have := HM.out g h; omega) (fun W1 hb1 => IH.out M (W.heap.size + 1) W1 (fun g h => by have := HM.out g h; have := hb1.size; omega) (cell_below hb1 hcb) hMb) rfl
    (fun k W' => J (cntTo N k) W' ∧ W'.cell? ⟨W.heap.size, 0, none⟩ = some (.func (.yield l) #[] #[]) ∧ W'.cell? ⟨Bn, 0, none⟩ = some (.int .i64 ((N : Int) + 2)))
    (fun k A B hI hs hb => ⟨HJ.out _ A B hI.1 (by omega) (hb.mono (by omega)), (hb.below.cell (p := ⟨W.heap.size, 0, none⟩) (by simp only; omega)).trans hI.2.1, (hb.below.cell (p := ⟨Bn, 0, none⟩) (by simp only; omega)).trans hI.2.2⟩)
    ⟨HJ.out 0 W Wa h0 (Nat.le_refl _) (Kc.ofB hbA (Nat.le_refl _)), hyA, hcA⟩
    (fun v => { tmps := #[.func (.yield l) #[] #[], .pointer (some ⟨Bn, 0, none⟩), .pointer (some ⟨W.heap.size, 0, none⟩), v, undef, undef, .int .i64 ((N : Int) + 2), .bool (decide ((N : Int) + 2 ≤ 1)), undef, undef, undef, .int .i64 ((N : Int) + 2), .int .i64 ((N : Int) + 2 - 1), .func (.func 102) #[] #[.pointer (some ⟨W.heap.size + 1, 0, none⟩)], v, undef, undef, undef, undef, undef, undef, undef, undef, undef, undef, undef, undef, undef, undef, undef, undef, undef, undef, undef, undef, undef, undef, undef, undef, undef, undef, undef, undef, undef, undef], defers := [] }) ?assign ?body ?done
  case assign =>
    intro lr v W' K hK m'
    gi_wp2
    exact hK
  case body =>
    intro lr k hk A q c Wb hszb hIk hR m'
    have hks : (stk (N + 1))[k]?.getD [] ∈ stk (N + 1) := by rw [List.getElem?_eq_getElem hk]; exact List.getElem_mem hk
    have hsl := stk_length (by omega) (by omega) hks
    obtain rfl : N + 1 = q := hsl.symm.trans hR.1.length
    have HAT := Lib.hid (fun (t : Nat) (ht : t < N + 2) hp => stk_at (n := N) (k := k) (t := t) hk ht hp)
    have HCS := Lib.hid (cntTo_succ hk)
    obtain ⟨b, off, rfl, hcells⟩ := hR.1.cells (by omega)
    have hbM : ¬ M b := hR.2.1 (by omega) _ rfl
    generalize (stk (N + 1))[k]?.getD [] = s at hR hsl HAT HCS hcells
    have HSL := Lib.hid hsl
    clear hks hsl hcells
    obtain ⟨hJk, hcy, hcn⟩ := hIk
    obtain ⟨hS, _⟩ := hR
    have hqc := hS.le_cap
    have hqm := hS.cap_max
    have hWW : W.heap.size + 2 ≤ Wb.heap.size := by omega
    gi_wp2_with fail
    gi_loopw [4, 5] (fun u _ wr => ∃ t : Nat, t ≤ N + 2 ∧ u = .int .i64 t ∧ J (cntTo N k + (insAll t s).length) wr ∧ wr.cell? ⟨W.heap.size, 0, none⟩ = some (.func (.yield l) #[] #[]) ∧ wr.cell? ⟨Bn, 0, none⟩ = some (.int .i64 ((N : Int) + 2)) ∧ Ints wr (some ⟨b, off, none⟩) (N + 1) c s ∧ KB M Wb wr) (fun u _ _ => N + 2 - (intOf u).toNat)
    case atStart => exact ⟨0, Nat.zero_le _, rfl, hJk, hcy, hcn, hS, KB.refl _ _⟩
    case round =>
      obtain ⟨t, ht, rfl, hJt, hyt, hnt, hSt, hkb⟩ := hrel
      have hzt := hkb.size
      by_cases hlt2 : t < N + 2
      · have Hyt := Lib.hid hyt
        have Hnt := Lib.hid hnt
        by_cases hct : c = t
        · have hcN : c = N + 1 := by omega
          have htN : t = N + 1 := by omega
          clear hct
          subst hcN htN
          gi_wp2_with (first
            | (gi_at_make; refine wpListIn_make_cap tyInts rfl _ _ rfl wr.heap.size _ (N + 2) rfl rfl (by omega) (by omega) (Nat.le_refl _) ?_; intro w1 o1 g1; have b1 : Below wr.heap.size wr w1 := (Below.refl _ _).grown g1 (Nat.le_refl _) (by simp); clear g1)
            | (gi_at_builtin; refine wpListIn_append_ints tyInts rfl (.tmp 22) (.tmp 25) rfl wr.heap.size _ _ _ _ rfl o1 (some ⟨b, off, none⟩) (N + 1) (N + 1) (s.take (N + 1)) rfl ((hSt.below b1).head (k := N + 1) (by omega)) (by omega) b1.size ?_; intro A2 c2 w2 o2 g2 e2; have b2 := Below.appended b1 b1.size g2 o1.base_le; clear g2 e2; simp only [Nat.zero_add, List.nil_append] at o2; have cn2 := cell_below b2 Hnt.out)
            | (gi_at_builtin; refine wpListIn_append_int tyInts rfl (.tmp 27) (.tmp 30) rfl wr.heap.size A2 (N + 1) c2 (s.take (N + 1)) rfl (o2.below ((Below.refl _ _).alloc (Nat.le_refl _) _)) w2.heap.size ((N : Int) + 2 - 1) rfl (by simp) (by omega) (by have := b2.size; simp; omega) ?_; intro A3 c3 w3 o3 g3 e3; have b3 := Below.appended (b2.alloc b2.size _) (by have := b2.size; simp; omega) g3 o2.base_le; clear g3 e3)
            | (gi_at_builtin; refine wpListIn_append_ints tyInts rfl (.tmp 32) (.tmp 35) rfl wr.heap.size A3 (N + 1 + 1) c3 _ rfl o3 (some ⟨b, off, none⟩) 0 0 [] rfl (Ints.empty _ _ (by unfold maxLen; omega)) (by omega) b3.size ?_; intro A4 c4 w4 o4 g4 e4; have b4 := Below.appended b3 b3.size g4 o3.base_le; clear g4 e4; simp only [Nat.add_zero, List.append_nil] at o4))
          have hO4 : OwnI w4 wr.heap.size A4 (N + 1 + 1) c4 (insL s (N + 1)) := by
            have e : insL s (N + 1) = s.take (N + 1) ++ [(N : Int) + 2 - 1] := by
              unfold insL
              rw [HSL.out, show ((N + 1 : Nat) : Int) = (N : Int) + 2 - 1 by omega]
              rw [List.drop_of_length_le (by rw [HSL.out]; exact Nat.le_refl _)]
            rw [e]
            exact o4
          clear o4
          have hJ4 := HJ.out _ wr w4 hJt (by omega) (Kc.ofB b4 (by omega))
          have y4 := cell_below b4 Hyt.out
          have n4 := cell_below b4 Hnt.out
          have s4 := hSt.below b4
          have z4 := b4.size
          have P4 := impl_StampPossible A4 (N + 1 + 1) c4 (insL s (N + 1)) w4 hO4.ints
          cases hp : possB (insL s (N + 1)) with
          | false =>
            rw [hp] at P4
            have HIN := Lib.hid (congrArg List.length (insAll_no hp))
            clear hp
            refine ⟨trivial, (fun h => by cases h), (CallsIn.inRound lr (callsIn_wide.2 P4)).mono ?_⟩
            clear P4
            rintro e w5 ⟨rfl, b5⟩
            gi_wp2_with fail
            refine ⟨(fun _ h => by cases h), ?_⟩
            gi_wp2_with fail
            go_roundw
            case rel => exact ⟨N + 1 + 1, by omega, by go_num, by rw [HIN.out]; exact HJ.out _ w4 w5 hJ4 (by omega) (Kc.ofB b5 (by omega)), cell_below b5 y4, cell_below b5 n4, s4.below b5, (hkb.trans (KB.of_below b4)).trans (KB.of_below b5)⟩
            case measure => simp [intOf]; omega
          | true =>
            rw [hp] at P4
            have hat := HAT.out (N + 1) hlt2 hp
            have HIN := Lib.hid ((congrArg List.length (insAll_yes hp)).trans (by rw [List.length_append]))
            clear hp
            refine ⟨trivial, (fun h => by cases h), (CallsIn.inRound lr (callsIn_wide.2 P4)).mono ?_⟩
            clear P4
            rintro e w5 ⟨rfl, b5⟩
            have y5 := cell_below b5 y4
            have hJ5 := HJ.out _ w4 w5 hJ4 (by omega) (Kc.ofB b5 (by omega))
            have z5 := b5.size
            have hidx : cntTo N k + (insAll (N + 1) s).length < (stk (N + 2)).length := (List.getElem?_eq_some_iff.1 hat).1
            have hR5 : Reads M W.heap.size w5 A4 (N + 1 + 1) c4 ((stk (N + 2))[cntTo N k + (insAll (N + 1) s).length]?.getD []) := by
              rw [hat]
              exact ⟨(hO4.below b5).ints, fun _ x hx hm => (by have := hO4.base_le x hx; have := HM.out _ hm; omega), (hO4.below b5).mono (by omega)⟩
            obtain ⟨fn, tmps, assign, body, hy, hRn⟩ := HY.out _ hidx (m' - 1) A4 (N + 1 + 1) c4 w5 hJ5 (by omega) hR5
            clear hat hR5 hidx
            gi_wp2_with fail
            refine ⟨(fun h => by cases h), RoundIn.mono (F := Fence.wide.inRound lr) hRn ?_⟩
            rintro e w6 ⟨rfl, hJ6, kb6⟩
            gi_wp2_with fail
            go_roundw
            case rel => exact ⟨N + 1 + 1, by omega, by go_num, by rw [HIN.out]; exact hJ6, kb6.cell y5 hMY, kb6.cell (cell_below b5 n4) hMn, kb6.ints (s4.below b5) (fun _ x hx => by cases hx; exact hbM), ((hkb.trans (KB.of_below b4)).trans (KB.of_below b5)).trans kb6⟩
            case measure => simp [intOf]; omega
        · skip
          gi_wp2_with (first
            | (gi_at_make; refine wpListIn_make_cap tyInts rfl _ _ rfl wr.heap.size _ (N + 2) rfl rfl (by omega) (by omega) (Nat.le_refl _) ?_; intro w1 o1 g1; have b1 : Below wr.heap.size wr w1 := (Below.refl _ _).grown g1 (Nat.le_refl _) (by simp); clear g1)
            | (gi_at_builtin; refine wpListIn_append_ints tyInts rfl (.tmp 22) (.tmp 25) rfl wr.heap.size _ _ _ _ rfl o1 (some ⟨b, off, none⟩) t c (s.take t) rfl ((hSt.below b1).head (k := t) (by omega)) (by omega) b1.size ?_; intro A2 c2 w2 o2 g2 e2; have b2 := Below.appended b1 b1.size g2 o1.base_le; clear g2 e2; simp only [Nat.zero_add, List.nil_append] at o2; have cn2 := cell_below b2 Hnt.out)
            | (gi_at_builtin; refine wpListIn_append_int tyInts rfl (.tmp 27) (.tmp 30) rfl wr.heap.size A2 t c2 (s.take t) rfl (o2.below ((Below.refl _ _).alloc (Nat.le_refl _) _)) w2.heap.size ((N : Int) + 2 - 1) rfl (by simp) (by omega) (by have := b2.size; simp; omega) ?_; intro A3 c3 w3 o3 g3 e3; have b3 := Below.appended (b2.alloc b2.size _) (by have := b2.size; simp; omega) g3 o2.base_le; clear g3 e3)
            | (gi_at_builtin; refine wpListIn_append_ints tyInts rfl (.tmp 32) (.tmp 35) rfl wr.heap.size A3 (t + 1) c3 _ rfl o3 (some ⟨b, off + t, none⟩) (N + 1 - t) (c - t) (s.drop t) rfl (by have q := (hSt.below b3).cut' (k := t) (by omega) (by omega); rwa [Option.map_some, add_addr] at q) (by omega) b3.size ?_; intro A4 c4 w4 o4 g4 e4; have b4 := Below.appended b3 b3.size g4 o3.base_le; clear g4 e4))
          have hO4 : OwnI w4 wr.heap.size A4 (t + 1 + (N + 1 - t)) c4 (insL s t) := by
            have e : insL s t = s.take t ++ [(N : Int) + 2 - 1] ++ s.drop t := by
              unfold insL
              rw [HSL.out, show ((N + 1 : Nat) : Int) = (N : Int) + 2 - 1 by omega]
              simp
            rw [e]
            exact o4
          clear o4
          have hJ4 := HJ.out _ wr w4 hJt (by omega) (Kc.ofB b4 (by omega))
          have y4 := cell_below b4 Hyt.out
          have n4 := cell_below b4 Hnt.out
          have s4 := hSt.below b4
          have z4 := b4.size
          have P4 := impl_StampPossible A4 (t + 1 + (N + 1 - t)) c4 (insL s t) w4 hO4.ints
          cases hp : possB (insL s t) with
          | false =>
            rw [hp] at P4
            have HIN := Lib.hid (congrArg List.length (insAll_no hp))
            clear hp
            refine ⟨trivial, (fun h => by cases h), (CallsIn.inRound lr (callsIn_wide.2 P4)).mono ?_⟩
            clear P4
            rintro e w5 ⟨rfl, b5⟩
            gi_wp2_with fail
            refine ⟨(fun _ h => by cases h), ?_⟩
            gi_wp2_with fail
            go_roundw
            case rel => exact ⟨t + 1, by omega, by go_num, by rw [HIN.out]; exact HJ.out _ w4 w5 hJ4 (by omega) (Kc.ofB b5 (by omega)), cell_below b5 y4, cell_below b5 n4, s4.below b5, (hkb.trans (KB.of_below b4)).trans (KB.of_below b5)⟩
            case measure => simp [intOf]; omega
          | true =>
            rw [hp] at P4
            have hat := HAT.out t hlt2 hp
            have HIN := Lib.hid ((congrArg List.length (insAll_yes hp)).trans (by rw [List.length_append]))
            clear hp
            refine ⟨trivial, (fun h => by cases h), (CallsIn.inRound lr (callsIn_wide.2 P4)).mono ?_⟩
            clear P4
            rintro e w5 ⟨rfl, b5⟩
            have y5 := cell_below b5 y4
            have hJ5 := HJ.out _ w4 w5 hJ4 (by omega) (Kc.ofB b5 (by omega))
            have z5 := b5.size
            have hidx : cntTo N k + (insAll t s).length < (stk (N + 2)).length := (List.getElem?_eq_some_iff.1 hat).1
            have hR5 : Reads M W.heap.size w5 A4 (t + 1 + (N + 1 - t)) c4 ((stk (N + 2))[cntTo N k + (insAll t s).length]?.getD []) := by
              rw [hat]
              exact ⟨(hO4.below b5).ints, fun _ x hx hm => (by have := hO4.base_le x hx; have := HM.out _ hm; omega), (hO4.below b5).mono (by omega)⟩
            obtain ⟨fn, tmps, assign, body, hy, hRn⟩ := HY.out _ hidx (m' - 1) A4 (t + 1 + (N + 1 - t)) c4 w5 hJ5 (by omega) hR5
            clear hat hR5 hidx
            gi_wp2_with fail
            refine ⟨(fun h => by cases h), RoundIn.mono (F := Fence.wide.inRound lr) hRn ?_⟩
            rintro e w6 ⟨rfl, hJ6, kb6⟩
            gi_wp2_with fail
            go_roundw
            case rel => exact ⟨t + 1, by omega, by go_num, by rw [HIN.out]; exact hJ6, kb6.cell y5 hMY, kb6.cell (cell_below b5 n4) hMn, kb6.ints (s4.below b5) (fun _ x hx => by cases hx; exact hbM), ((hkb.trans (KB.of_below b4)).trans (KB.of_below b5)).trans kb6⟩
            case measure => simp [intOf]; omega
      · obtain rfl : t = N + 2 := by omega
        gi_wp2_with fail
        exact ⟨hkb, by rw [HCS.out]; exact hJt, hyt, hnt⟩
  case done =>
    intro D Wd hD hId hkb hK
    gi_wp2
    have hz := hkb.size
    have hk2 := (KB.of_below (M := M) hbA).trans hkb
    refine ⟨by simp, .inl ⟨_, _, rfl, run_takeDeferred hK, ?_⟩⟩
    have hJd : J (stk (N + 2)).length Wd := by
      have q := hId.1
      rw [cntTo_all] at q
      exact q
    refine ⟨_, results_none rfl _ _ _, ⟨_, rfl⟩, HJ.out _ Wd _ hJd (by omega) (Kc.put Wd D _ (by omega) (by omega) (fun c t f q => by rw [hK] at q; cases q)), ⟨hk2.os, hk2.tape, hk2.output, by simpa using hk2.size, fun g hg hm => (World.putObj_heap_other (by omega)).trans (hk2.block g hg hm)⟩⟩

theorem seq_stacks : ∀ (N : Nat), N ≤ 6 → ∀ (M : Nat → Prop) (Bn : Nat) (W : World), (∀ g, M g → g < W.heap.size) → W.cell? ⟨Bn, 0, none⟩ = some (.int .i64 ((N + 1 : Nat) : Int)) → ¬ M Bn → SeqM Try.prog 102 #[.pointer (some ⟨Bn, 0, none⟩)] M (stk (N + 1)) W := by
  intro N
  induction N with
  | zero => intro _ M Bn W hM hc _; exact seq_one M Bn W hM hc
  | succ N ih => intro hN M Bn W hM hc hMn; exact seq_more N (by omega) (ih (by omega)) M Bn W hM hc hMn

end Go.Proofs.Ythlgagngeedgjaa
