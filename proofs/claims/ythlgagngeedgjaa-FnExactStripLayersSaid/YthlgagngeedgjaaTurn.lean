/-
  What AnglesCloses, AnglesTurn and AnglesBack compute, in the reference and in the program, by a walk through each.
-/
import Derived.Test.YthlgagngeedgjaaAngles
import Derived.Test.YthlgagngeedgjaaMem2
import Derived.WalkSpells
namespace Go.Proofs.Ythlgagngeedgjaa
open Go.RowKit

set_option maxHeartbeats 400000 in
theorem spec_l1Alternate (a : Option Addr) (n cap : Nat) (xs : List Int) (w : World) (h : Ints w a n cap xs) (hn : n ≤ 1048576) (hin : allIn 1 1000 xs) :
    Calls Try.prog 78 #[.slice a n cap] w fun e w' => e = .returned (.int .i64 (alt xs)) ∧ w = w' := by
  have H := Lib.hid h.length
  have HI := Lib.hid hin
  clear hin
  have hle := h.le_cap
  go_enter Try.func78, Try.ntmps78
  go_wp2
  go_loop [3, 4] (fun t i => ∃ k : Nat, k ≤ n ∧ i = .int .i64 k ∧ t = .int .i64 (alt (xs.take k))) (fun _ i => n - (intOf i).toNat)
  case atStart => exact ⟨0, Nat.zero_le _, rfl, rfl⟩
  case round =>
    obtain ⟨k, hk, rfl, rfl⟩ := hrel
    by_cases hlt : k < n
    · obtain ⟨b, off, rfl, hc⟩ := h.cells (by omega)
      have hck := hc k hlt
      clear hc
      have hx := allIn_get HI.out k (by rw [H.out]; exact hlt)
      have hs := alt_take_bd HI.out k
      have HS := Lib.hid (alt_take xs k (by rw [H.out]; exact hlt))
      by_cases hp : k % 2 = 0
      · go_wp2
        go_round
        case rel => exact ⟨k + 1, by omega, by go_num, by rw [HS.out, if_pos hp]⟩
        case measure => simp [intOf]; omega
      · go_wp2
        go_round
        case rel => exact ⟨k + 1, by omega, by go_num, by rw [HS.out, if_neg hp]; go_num⟩
        case measure => simp [intOf]; omega
    · go_wp2
      go_ret
      exact ⟨ret_int (by rw [take_allI xs k (by rw [H.out]; omega)]), rfl⟩

set_option maxHeartbeats 400000 in
theorem impl_balanced (a : Option Addr) (n cap : Nat) (xs : List Int) (w : World) (h : Ints w a n cap xs) (hn : n ≤ 1048576) (hin : allIn 1 1000 xs) :
    Calls Try.prog 77 #[.slice a n cap] w fun e w' => e = .returned (.bool (alt xs == 0)) ∧ w = w' := by
  have H := Lib.hid h.length
  have HI := Lib.hid hin
  clear hin
  have hle := h.le_cap
  go_enter Try.func77, Try.ntmps77
  go_wp2
  go_loop [3, 8] (fun t i => ∃ k : Nat, k ≤ n ∧ i = .int .i64 k ∧ t = .int .i64 (alt (xs.take k))) (fun _ i => n - (intOf i).toNat)
  case atStart => exact ⟨0, Nat.zero_le _, rfl, rfl⟩
  case round =>
    obtain ⟨k, hk, rfl, rfl⟩ := hrel
    by_cases hlt : k < n
    · obtain ⟨b, off, rfl, hc⟩ := h.cells (by omega)
      have hck := hc k hlt
      clear hc
      have hx := allIn_get HI.out k (by rw [H.out]; exact hlt)
      have hs := alt_take_bd HI.out k
      have HS := Lib.hid (alt_take xs k (by rw [H.out]; exact hlt))
      by_cases hp : k % 2 = 0
      · go_wp2
        go_round
        case rel => exact ⟨k + 1, by omega, by go_num, by rw [HS.out, if_pos hp]⟩
        case measure => simp [intOf]; omega
      · go_wp2
        go_round
        case rel => exact ⟨k + 1, by omega, by go_num, by rw [HS.out, if_neg hp]; go_num⟩
        case measure => simp [intOf]; omega
    · go_wp2
      go_ret
      exact ⟨ret_bool (by rw [take_allI xs k (by rw [H.out]; omega)]), rfl⟩

/-- What AnglesCloses answers. -/
def closesB (xs : List Int) : Bool := anglesB xs && (alt xs == 0)
theorem anglesB_in {xs : List Int} (h : anglesB xs = true) : allIn 1 1000 xs := fun x hx => by
  have := (anglesB_iff xs).1 h
  have := this.2.2.2.1 x hx
  omega
theorem anglesB_len {xs : List Int} (h : anglesB xs = true) : 2 ≤ xs.length ∧ xs.length ≤ 10 ∧ xs.length % 2 = 0 := by
  have := (anglesB_iff xs).1 h
  exact ⟨this.1, this.2.1, this.2.2.1⟩

theorem spec_AnglesCloses (a : Option Addr) (n cap : Nat) (xs : List Int) (w : World) (h : Ints w a n cap xs) (hn : n ≤ 1048576) :
    Calls Try.prog 34 #[.slice a n cap] w fun e w' => e = .returned (.bool (closesB xs)) ∧ w = w' := by
  have H1 := Lib.hid (spec_AnglesValid a n cap xs w h hn)
  by_cases hv : anglesB xs = true
  · have H2 := Lib.hid (spec_l1Alternate a n cap xs w h hn (anglesB_in hv))
    have hc : closesB xs = (alt xs == 0) := by unfold closesB; rw [hv]; rfl
    rw [hv] at H1
    have HC := Lib.hid hc
    clear hc hv
    go_enter Try.func34, Try.ntmps34
    go_wp2_with (first | (go_at_call 76; refine H1.out.mono ?_; rintro e w' ⟨rfl, rfl⟩) | (go_at_call 78; refine H2.out.mono ?_; rintro e w' ⟨rfl, rfl⟩))
    go_ret
    exact ⟨ret_bool HC.out.symm, rfl⟩
  · rw [Bool.not_eq_true] at hv
    have hc : closesB xs = false := by unfold closesB; rw [hv]; rfl
    rw [hv] at H1
    have HC := Lib.hid hc
    clear hc hv
    go_enter Try.func34, Try.ntmps34
    go_wp2_with (go_at_call 76; refine H1.out.mono ?_; rintro e w' ⟨rfl, rfl⟩)
    go_ret
    exact ⟨ret_bool HC.out.symm, rfl⟩

theorem impl_AnglesCloses (a : Option Addr) (n cap : Nat) (xs : List Int) (w : World) (h : Ints w a n cap xs) (hn : n ≤ 1048576) :
    Calls Try.prog 33 #[.slice a n cap] w fun e w' => e = .returned (.bool (closesB xs)) ∧ w = w' := by
  have H1 := Lib.hid (impl_AnglesValid a n cap xs w h)
  by_cases hv : anglesB xs = true
  · have H2 := Lib.hid (impl_balanced a n cap xs w h hn (anglesB_in hv))
    have hc : closesB xs = (alt xs == 0) := by unfold closesB; rw [hv]; rfl
    rw [hv] at H1
    have HC := Lib.hid hc
    clear hc hv
    go_enter Try.func33, Try.ntmps33
    go_wp2_with (first | (go_at_call 75; refine H1.out.mono ?_; rintro e w' ⟨rfl, rfl⟩) | (go_at_call 77; refine H2.out.mono ?_; rintro e w' ⟨rfl, rfl⟩))
    go_ret
    exact ⟨ret_bool HC.out.symm, rfl⟩
  · rw [Bool.not_eq_true] at hv
    have hc : closesB xs = false := by unfold closesB; rw [hv]; rfl
    rw [hv] at H1
    have HC := Lib.hid hc
    clear hc hv
    go_enter Try.func33, Try.ntmps33
    go_wp2_with (go_at_call 75; refine H1.out.mono ?_; rintro e w' ⟨rfl, rfl⟩)
    go_ret
    exact ⟨ret_bool HC.out.symm, rfl⟩

set_option maxHeartbeats 1000000 in
theorem impl_AnglesTurn_yes (a : Option Addr) (n cap : Nat) (xs : List Int) (k : Nat) (w : World) (h : Ints w a n cap xs) (hv : anglesB xs = true) (hk : k < n) :
    Calls Try.prog 28 #[.slice a n cap, .int .i64 k] w (RIntsB w (xs.drop k ++ xs.take k) true) := by
  have hle := h.le_cap
  have hm := h.cap_max
  have hl := anglesB_len hv
  rw [h.length] at hl
  have H1 := impl_AnglesValid a n cap xs w h
  rw [hv] at H1
  have H1 := Lib.hid H1
  clear hv
  go_enter Try.func28, Try.ntmps28
  go_wp2_with (first | (go_at_call 75; refine H1.out.mono ?_; rintro e w' ⟨rfl, rfl⟩) | (at_make; refine wpList_make_cap tyInts rfl _ _ rfl w.heap.size _ n rfl rfl rfl (by omega) (Nat.le_refl _) ?_; intro w1 o1 g1; have b1 : Below w.heap.size w w1 := (Below.refl _ _).grown g1 (Nat.le_refl _) (by simp); clear g1) | (at_builtin; refine wpList_append_ints tyInts rfl (.tmp 24) (.tmp 27) rfl w.heap.size _ _ _ _ rfl o1 _ _ _ _ rfl ((h.below b1).cut' (k := k) (by omega) (by omega)) (by omega) b1.size ?_; intro A2 c2 w2 o2 g2 e2; have b2 := Below.appended b1 b1.size g2 o1.base_le; clear g2 e2; simp only [Nat.zero_add, List.nil_append] at o2) | (at_builtin; refine wpList_append_ints tyInts rfl (.tmp 29) (.tmp 32) rfl w.heap.size _ _ _ _ rfl o2 _ _ _ _ rfl ((h.below b2).head (k := k) (by omega)) (by omega) b2.size ?_; intro A3 c3 w3 o3 g3 e3; have b3 := Below.appended b2 b2.size g3 o2.base_le; clear g3 e3))
  go_ret2
  exact ⟨_, _, _, rfl, o3, b3⟩

theorem impl_AnglesTurn_no (a : Option Addr) (n cap : Nat) (xs : List Int) (k : Int) (w : World) (h : Ints w a n cap xs) (hv : anglesB xs = false ∨ k < 0 ∨ (n : Int) ≤ k) :
    Calls Try.prog 28 #[.slice a n cap, .int .i64 k] w (RIntsB w [] false) := by
  have H1 := impl_AnglesValid a n cap xs w h
  cases hb : anglesB xs with
  | false =>
    rw [hb] at H1
    have H1 := Lib.hid H1
    clear hv hb
    go_enter Try.func28, Try.ntmps28
    go_wp2_with (go_at_call 75; refine H1.out.mono ?_; rintro e w' ⟨rfl, rfl⟩)
    go_ret2
    exact ⟨_, _, _, rfl, OwnI.lit0 _ (Nat.le_refl _), (Below.refl _ _).alloc (Nat.le_refl _) _⟩
  | true =>
    rw [hb] at H1 hv
    have H1 := Lib.hid H1
    clear hb
    have hv : k < 0 ∨ (n : Int) ≤ k := by rcases hv with h | h; cases h; exact h
    by_cases h0 : k < 0
    · clear hv
      go_enter Try.func28, Try.ntmps28
      go_wp2_with (go_at_call 75; refine H1.out.mono ?_; rintro e w' ⟨rfl, rfl⟩)
      go_ret2
      exact ⟨_, _, _, rfl, OwnI.lit0 _ (Nat.le_refl _), (Below.refl _ _).alloc (Nat.le_refl _) _⟩
    · have h1 : (n : Int) ≤ k := by omega
      clear hv
      go_enter Try.func28, Try.ntmps28
      go_wp2_with (go_at_call 75; refine H1.out.mono ?_; rintro e w' ⟨rfl, rfl⟩)
      go_ret2
      exact ⟨_, _, _, rfl, OwnI.lit0 _ (Nat.le_refl _), (Below.refl _ _).alloc (Nat.le_refl _) _⟩

theorem spec_AnglesTurn_no (a : Option Addr) (n cap : Nat) (xs : List Int) (k : Int) (w : World) (h : Ints w a n cap xs) (hn : n ≤ 1048576) (hv : anglesB xs = false ∨ k < 0 ∨ (n : Int) ≤ k) :
    Calls Try.prog 29 #[.slice a n cap, .int .i64 k] w (RIntsB w [] false) := by
  have H1 := spec_AnglesValid a n cap xs w h hn
  cases hb : anglesB xs with
  | false =>
    rw [hb] at H1
    have H1 := Lib.hid H1
    clear hv hb
    go_enter Try.func29, Try.ntmps29
    go_wp2_with (go_at_call 76; refine H1.out.mono ?_; rintro e w' ⟨rfl, rfl⟩)
    go_ret2
    exact ⟨_, _, _, rfl, OwnI.lit0 _ (Nat.le_refl _), (Below.refl _ _).alloc (Nat.le_refl _) _⟩
  | true =>
    rw [hb] at H1 hv
    have H1 := Lib.hid H1
    clear hb
    have hv : ¬ (0 ≤ k ∧ k ≤ (n : Int) - 1) := by
      rcases hv with h | h
      · cases h
      · omega
    go_enter Try.func29, Try.ntmps29
    go_wp2_with (first | (go_at_call 76; refine H1.out.mono ?_; rintro e w' ⟨rfl, rfl⟩) | (go_at_call 55; refine (spec_l6In_no _ _ _ _ hv).mono ?_; rintro e w' ⟨rfl, rfl⟩))
    go_ret2
    exact ⟨_, _, _, rfl, OwnI.lit0 _ (Nat.le_refl _), (Below.refl _ _).alloc (Nat.le_refl _) _⟩

set_option maxHeartbeats 1000000 in
theorem spec_AnglesTurn_yes (a : Option Addr) (n cap : Nat) (xs : List Int) (k : Nat) (w : World) (h : Ints w a n cap xs) (hv : anglesB xs = true) (hk : k < n) :
    Calls Try.prog 29 #[.slice a n cap, .int .i64 k] w (RIntsB w (xs.drop k ++ xs.take k) true) := by
  have hle := h.le_cap
  have hm := h.cap_max
  have hl := anglesB_len hv
  rw [h.length] at hl
  have H1 := spec_AnglesValid a n cap xs w h (by omega)
  rw [hv] at H1
  have H1 := Lib.hid H1
  clear hv
  go_enter Try.func29, Try.ntmps29
  go_wp2_with (first | (go_at_call 76; refine H1.out.mono ?_; rintro e w' ⟨rfl, rfl⟩) | (go_at_call 55; refine (spec_l6In_yes _ _ _ _ (by omega) (by omega)).mono ?_; rintro e w' ⟨rfl, rfl⟩))
  have b1 : Below w.heap.size w (w.alloc (.cells #[] 3)).drew := ((Below.refl _ w).alloc (Nat.le_refl _) _).drew
  have hkn : k ≤ n := by omega
  have hkc : k ≤ cap := by omega
  have hck : ¬ cap = k := by omega
  go_region_law (first | (refine step_append_ints tyInts rfl (.tmp 18) (.tmp 21) rfl w.heap.size (some ⟨w.heap.size, 0, none⟩) 0 0 [] (by simp [Act.eval]) (OwnI.lit0 w (Nat.le_refl _)).drew (a.map (·.add k)) (n - k) (cap - k) (xs.drop k) (by simp [Act.eval]) ((h.below b1).cut' (k := k) (by omega) (by omega)) (by omega) b1.size ?_; intro A2 c2 w2 o2 g2 e2; have b2 := Below.appended b1 b1.size g2 (fun x e => by cases e; exact Nat.le_refl _); clear g2 e2; simp only [Nat.zero_add, List.nil_append] at o2 ⊢) | (refine step_append_ints tyInts rfl (.tmp 22) (.tmp 25) rfl w.heap.size A2 (n - k) c2 (xs.drop k) (by simp [Act.eval]) o2 a k cap (xs.take k) (by simp [Act.eval]) ((h.below b2).head (k := k) (by omega)) (by omega) b2.size ?_; intro A3 c3 w3 o3 g3 e3; have b3 := Below.appended b2 b2.size g3 o2.base_le; clear g3 e3))
  go_wp2
  go_ret2
  rw [Nat.sub_add_cancel hkn] at o3
  exact ⟨_, _, _, rfl, o3, b3⟩

end Go.Proofs.Ythlgagngeedgjaa
