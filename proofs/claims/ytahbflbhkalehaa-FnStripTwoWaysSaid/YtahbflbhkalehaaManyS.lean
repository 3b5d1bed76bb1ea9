/-
  What both StripMany and both StripFirst compute, by walks.
-/
import Derived.Test.YtahbflbhkalehaaLayS
import Derived.Test.YtahbflbhkalehaaMany
import Derived.Test.YtahbflbhkalehaaRights
namespace Go.Proofs.Ytahbflbhkalehaa
open Go.RowKit

/-- The right layers, in order. -/
def rtsS (xs : List Int) (s : ByteArray) : List (List Int) := if stripB xs s = true then (perms xs.length).filter (rightB xs (stripFs xs s)) else []
/-- What StripMany answers. -/
def manS (xs : List Int) (s : ByteArray) : Int := if stripB xs s = true then ((rtsS xs s).length : Int) else -1
theorem rtsS_yes {xs : List Int} {s : ByteArray} (h : stripB xs s = true) : rtsS xs s = (perms xs.length).filter (rightB xs (stripFs xs s)) := by unfold rtsS; rw [if_pos h]
theorem rtsS_no {xs : List Int} {s : ByteArray} (h : stripB xs s = false) : rtsS xs s = [] := by unfold rtsS; rw [if_neg (by rw [h]; decide)]
theorem manS_no {xs : List Int} {s : ByteArray} (h : stripB xs s = false) : manS xs s = -1 := by unfold manS; rw [if_neg (by rw [h]; decide)]
theorem manS_yes {xs : List Int} {s : ByteArray} (h : stripB xs s = true) : manS xs s = (((perms xs.length).filter (rightB xs (stripFs xs s))).length : Int) := by unfold manS; rw [if_pos h, rtsS_yes h]
theorem rtsS_mem {xs : List Int} {s : ByteArray} {ys : List Int} : ys ∈ rtsS xs s ↔ stripB xs s = true ∧ ys.length = xs.length ∧ permB ys = true ∧ rightB xs (stripFs xs s) ys = true := by
  unfold rtsS
  by_cases h : stripB xs s = true
  · rw [if_pos h, List.mem_filter, mem_perms]; simp [h, and_assoc]
  · rw [if_neg h]; simp [h]
theorem rtsS_len (xs : List Int) (s : ByteArray) : ((rtsS xs s).head?.getD []).length ≤ xs.length := by
  cases h : (rtsS xs s).head? with
  | none => simp
  | some y => rw [Option.getD_some, (rtsS_mem.1 (List.mem_of_head? h)).2.1]; exact Nat.le_refl _

theorem spec_StripMany (a : Option Addr) (n cap : Nat) (xs : List Int) (s : ByteArray) (w : World) (h : Ints w a n cap xs) (hn : n ≤ 1048576) (hs : s.size ≤ maxLen) :
    Calls Try.prog 6 #[.slice a n cap, .string s] w (RVal w (.int .i64 (manS xs s))) := by
  have H1 := spec_StripValid a n cap xs s w h hn hs
  cases hv : stripB xs s with
  | false =>
    rw [hv] at H1
    have H1 := Lib.hid H1
    rw [manS_no hv]
    clear hv
    go_enter Try.func6, Try.ntmps6
    go_wp2_with (go_at_call 15; refine H1.out.mono ?_; rintro e w' ⟨rfl, rfl⟩)
    go_ret
    exact ⟨rfl, Below.refl _ _⟩
  | true =>
    rw [hv] at H1
    have H1 := Lib.hid H1
    obtain ⟨hv1, hv2, _⟩ := stripB_len hv
    have hl := lengthsB_len hv1
    have hlen := h.length
    have hin := lengthsB_in hv1
    have hfl := stripFs_length xs s
    have hap := stripFs_apart xs s
    have hpar := stripFs_par xs s
    rw [manS_yes hv]
    rw [hlen] at hl hv2 hfl hap hpar
    rw [hlen]
    have H2 := Lib.hid (spec_l2Rights false s (stripFs xs s) a n cap xs w h hl.2 (fun W b m cb ys hx hy hm => spec_l2Right false s (stripFs xs s) (bAt s) a b n cap m cb xs ys W hx hl.1 hl.2 hin hpar hap (by omega) (stripFs_hi xs s) (fun w' h' => by rw [hfl]; exact spec_l2AllFolds_strip a n cap xs s w' h' hl.1 hl.2 hin hv2) hy hm))
    clear hv hv1 hap hpar hfl hin
    generalize (perms n).filter (rightB xs (stripFs xs s)) = R at H2 ⊢
    go_enter Try.func6, Try.ntmps6
    go_wp2_with (first | (go_at_call 15; refine H1.out.mono ?_; rintro e w' ⟨rfl, rfl⟩) | (go_at_call 16; refine H2.out.mono ?_; rintro e w1 ⟨a1, N, c1, rfl, r1, b1⟩; have hrl := r1.le_cap))
    go_ret
    exact ⟨ret_int (by rw [r1.length]), b1⟩

theorem impl_StripMany (a : Option Addr) (n cap : Nat) (xs : List Int) (s : ByteArray) (w : World) (h : Ints w a n cap xs) (hs : s.size ≤ maxLen) :
    Calls Try.prog 5 #[.slice a n cap, .string s] w (RVal w (.int .i64 (manS xs s))) := by
  have H1 := impl_StripValid a n cap xs s w h hs
  cases hv : stripB xs s with
  | false =>
    rw [hv] at H1
    have H1 := Lib.hid H1
    rw [manS_no hv]
    clear hv
    go_enter Try.func5, Try.ntmps5
    go_wp2_with (go_at_call 12; refine H1.out.mono ?_; rintro e w' ⟨rfl, rfl⟩)
    go_ret
    exact ⟨rfl, Below.refl _ _⟩
  | true =>
    rw [hv] at H1
    have H1 := Lib.hid H1
    obtain ⟨hv1, hv2, _⟩ := stripB_len hv
    have hl := lengthsB_len hv1
    have hlen := h.length
    have hin := lengthsB_in hv1
    have hfl := stripFs_length xs s
    have hap := stripFs_apart xs s
    have hpar := stripFs_par xs s
    rw [manS_yes hv]
    rw [hlen] at hl hv2 hfl hap hpar
    rw [hlen]
    have H2 := Lib.hid (impl_flatStrip a n cap xs s w h hl.1 hl.2 hin hv2)
    have H3 := Lib.hid (fun (g : Nat) (w' : World) (hf : FlatAt w' g n xs (stripFs xs s)) => impl_count g n xs (stripFs xs s) w' hf hlen hl.1 hl.2 hpar hap (by omega))
    clear hv hv1 hap hpar hfl hin
    generalize (perms n).filter (rightB xs (stripFs xs s)) = R at H3 ⊢
    go_enter Try.func5, Try.ntmps5
    go_wp2_with (first | (go_at_call 12; refine H1.out.mono ?_; rintro e w' ⟨rfl, rfl⟩) | (go_at_call 13; refine H2.out.mono ?_; rintro e w2 ⟨g, rfl, f2, b2⟩) | (go_at_call 14; refine (H3.out _ _ f2).mono ?_; rintro e w3 ⟨rfl, b3⟩))
    go_ret
    exact ⟨rfl, Below.call b2 b2.size b3⟩

theorem impl_StripFirst (a : Option Addr) (n cap : Nat) (xs : List Int) (s : ByteArray) (w : World) (h : Ints w a n cap xs) (hs : s.size ≤ maxLen) :
    Calls Try.prog 7 #[.slice a n cap, .string s] w (RIntsB w ((rtsS xs s).head?.getD []) (rtsS xs s).head?.isSome) := by
  have H1 := impl_StripValid a n cap xs s w h hs
  cases hv : stripB xs s with
  | false =>
    rw [hv] at H1
    have H1 := Lib.hid H1
    rw [rtsS_no hv]
    clear hv
    go_enter Try.func7, Try.ntmps7
    go_wp2_with (go_at_call 12; refine H1.out.mono ?_; rintro e w' ⟨rfl, rfl⟩)
    go_ret2
    exact ⟨_, _, _, rfl, OwnI.lit0 w (Nat.le_refl _), (Below.refl _ _).alloc (Nat.le_refl _) _⟩
  | true =>
    rw [hv] at H1
    have H1 := Lib.hid H1
    obtain ⟨hv1, hv2, _⟩ := stripB_len hv
    have hl := lengthsB_len hv1
    have hlen := h.length
    have hin := lengthsB_in hv1
    have hfl := stripFs_length xs s
    have hap := stripFs_apart xs s
    have hpar := stripFs_par xs s
    rw [rtsS_yes hv]
    rw [hlen] at hl hv2 hfl hap hpar
    rw [hlen]
    have H2 := Lib.hid (impl_flatStrip a n cap xs s w h hl.1 hl.2 hin hv2)
    have H3 := Lib.hid (fun (g : Nat) (w' : World) (hf : FlatAt w' g n xs (stripFs xs s)) => impl_firstLayers g n xs (stripFs xs s) w' hf hlen hl.1 hl.2 hpar hap (by omega))
    clear hv hv1 hap hpar hfl hin
    generalize (perms n).filter (rightB xs (stripFs xs s)) = R at H3 ⊢
    go_enter Try.func7, Try.ntmps7
    go_wp2_with (first | (go_at_call 12; refine H1.out.mono ?_; rintro e w' ⟨rfl, rfl⟩) | (go_at_call 13; refine H2.out.mono ?_; rintro e w2 ⟨g, rfl, f2, b2⟩) | (go_at_call 17; refine (H3.out _ _ f2).mono ?_; rintro e w3 ⟨a3, n3, c3, rfl, o3, b3⟩))
    go_ret2
    exact ⟨_, _, _, rfl, o3.mono b2.size, Below.call b2 b2.size b3⟩

end Go.Proofs.Ytahbflbhkalehaa
