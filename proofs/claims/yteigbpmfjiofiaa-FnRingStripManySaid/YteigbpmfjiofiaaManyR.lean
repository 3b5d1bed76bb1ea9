/-
  What both RingMany and both RingFirst compute, by walks.
-/
import Derived.Test.YteigbpmfjiofiaaLayR
import Derived.Test.YteigbpmfjiofiaaMany
import Derived.Test.YteigbpmfjiofiaaRights
namespace Go.Proofs.Yteigbpmfjiofiaa
open Go.RowKit

/-- The right layers, in order. -/
def rtsR (xs : List Int) (s : ByteArray) : List (List Int) := if ringB xs s = true then (perms xs.length).filter (rightB xs (ringFs xs s)) else []
/-- What RingMany answers. -/
def manR (xs : List Int) (s : ByteArray) : Int := if ringB xs s = true then ((rtsR xs s).length : Int) else -1
theorem rtsR_yes {xs : List Int} {s : ByteArray} (h : ringB xs s = true) : rtsR xs s = (perms xs.length).filter (rightB xs (ringFs xs s)) := by unfold rtsR; rw [if_pos h]
theorem rtsR_no {xs : List Int} {s : ByteArray} (h : ringB xs s = false) : rtsR xs s = [] := by unfold rtsR; rw [if_neg (by rw [h]; decide)]
theorem manR_no {xs : List Int} {s : ByteArray} (h : ringB xs s = false) : manR xs s = -1 := by unfold manR; rw [if_neg (by rw [h]; decide)]
theorem manR_yes {xs : List Int} {s : ByteArray} (h : ringB xs s = true) : manR xs s = (((perms xs.length).filter (rightB xs (ringFs xs s))).length : Int) := by unfold manR; rw [if_pos h, rtsR_yes h]
theorem rtsR_mem {xs : List Int} {s : ByteArray} {ys : List Int} : ys ∈ rtsR xs s ↔ ringB xs s = true ∧ ys.length = xs.length ∧ permB ys = true ∧ rightB xs (ringFs xs s) ys = true := by
  unfold rtsR
  by_cases h : ringB xs s = true
  · rw [if_pos h, List.mem_filter, mem_perms]; simp [h, and_assoc]
  · rw [if_neg h]; simp [h]
theorem rtsR_len (xs : List Int) (s : ByteArray) : ((rtsR xs s).head?.getD []).length ≤ xs.length := by
  cases h : (rtsR xs s).head? with
  | none => simp
  | some y => rw [Option.getD_some, (rtsR_mem.1 (List.mem_of_head? h)).2.1]; exact Nat.le_refl _

theorem spec_RingMany (a : Option Addr) (n cap : Nat) (xs : List Int) (s : ByteArray) (w : World) (h : Ints w a n cap xs) (hn : n ≤ 1048576) (hs : s.size ≤ maxLen) :
    Calls Try.prog 21 #[.slice a n cap, .string s] w (RVal w (.int .i64 (manR xs s))) := by
  have H1 := spec_RingValid a n cap xs s w h hn hs
  cases hv : ringB xs s with
  | false =>
    rw [hv] at H1
    have H1 := Lib.hid H1
    rw [manR_no hv]
    clear hv
    go_enter Try.func21, Try.ntmps21
    go_wp2_with (go_at_call 44; refine H1.out.mono ?_; rintro e w' ⟨rfl, rfl⟩)
    go_ret
    exact ⟨rfl, Below.refl _ _⟩
  | true =>
    rw [hv] at H1
    have H1 := Lib.hid H1
    obtain ⟨hv1, hve, hv2, _⟩ := ringB_len hv
    have hl := lengthsB_len hv1
    have hlen := h.length
    have hin := lengthsB_in hv1
    have hfl := ringFs_length xs s
    have hap := ringFs_apart s hve
    have hpar := ringFs_par s hve
    rw [manR_yes hv]
    rw [hlen] at hl hve hv2 hfl hap hpar
    rw [hlen]
    have H2 := Lib.hid (spec_l2Rights true s (ringFs xs s) a n cap xs w h hl.2 (fun W b m cb ys hx hy hm => spec_l2Right true s (ringFs xs s) (bAt s) a b n cap m cb xs ys W hx hl.1 hl.2 hin hpar hap (by omega) (ringFs_hi xs s) (fun w' h' => by rw [hfl]; exact spec_l2AllFolds_ring a n cap xs s w' h' (by omega) hl.2 hin hv2) hy hm))
    clear hv hv1 hap hpar hfl hin
    generalize (perms n).filter (rightB xs (ringFs xs s)) = R at H2 ⊢
    go_enter Try.func21, Try.ntmps21
    go_wp2_with (first | (go_at_call 44; refine H1.out.mono ?_; rintro e w' ⟨rfl, rfl⟩) | (go_at_call 50; refine H2.out.mono ?_; rintro e w1 ⟨a1, N, c1, rfl, r1, b1⟩; have hrl := r1.le_cap))
    go_ret
    exact ⟨ret_int (by rw [r1.length]), b1⟩

theorem impl_RingMany (a : Option Addr) (n cap : Nat) (xs : List Int) (s : ByteArray) (w : World) (h : Ints w a n cap xs) (hs : s.size ≤ maxLen) :
    Calls Try.prog 22 #[.slice a n cap, .string s] w (RVal w (.int .i64 (manR xs s))) := by
  have H1 := impl_RingValid a n cap xs s w h hs
  cases hv : ringB xs s with
  | false =>
    rw [hv] at H1
    have H1 := Lib.hid H1
    rw [manR_no hv]
    clear hv
    go_enter Try.func22, Try.ntmps22
    go_wp2_with (go_at_call 46; refine H1.out.mono ?_; rintro e w' ⟨rfl, rfl⟩)
    go_ret
    exact ⟨rfl, Below.refl _ _⟩
  | true =>
    rw [hv] at H1
    have H1 := Lib.hid H1
    obtain ⟨hv1, hve, hv2, _⟩ := ringB_len hv
    have hl := lengthsB_len hv1
    have hlen := h.length
    have hin := lengthsB_in hv1
    have hfl := ringFs_length xs s
    have hap := ringFs_apart s hve
    have hpar := ringFs_par s hve
    rw [manR_yes hv]
    rw [hlen] at hl hve hv2 hfl hap hpar
    rw [hlen]
    have H2 := Lib.hid (impl_flatRing a n cap xs s w h hl.1 hl.2 hin hv2)
    have H3 := Lib.hid (fun (g : Nat) (w' : World) (hf : FlatAt w' g n xs (ringFs xs s)) => impl_count g n xs (ringFs xs s) w' hf hlen hl.1 hl.2 hpar hap (by omega))
    clear hv hv1 hap hpar hfl hin
    generalize (perms n).filter (rightB xs (ringFs xs s)) = R at H3 ⊢
    go_enter Try.func22, Try.ntmps22
    go_wp2_with (first | (go_at_call 46; refine H1.out.mono ?_; rintro e w' ⟨rfl, rfl⟩) | (go_at_call 47; refine H2.out.mono ?_; rintro e w2 ⟨g, rfl, f2, b2⟩) | (go_at_call 53; refine (H3.out _ _ f2).mono ?_; rintro e w3 ⟨rfl, b3⟩))
    go_ret
    exact ⟨rfl, Below.call b2 b2.size b3⟩

theorem spec_RingFirst (a : Option Addr) (n cap : Nat) (xs : List Int) (s : ByteArray) (w : World) (h : Ints w a n cap xs) (hn : n ≤ 1048576) (hs : s.size ≤ maxLen) :
    Calls Try.prog 27 #[.slice a n cap, .string s] w (RIntsB w ((rtsR xs s).head?.getD []) (rtsR xs s).head?.isSome) := by
  have H1 := spec_RingValid a n cap xs s w h hn hs
  cases hv : ringB xs s with
  | false =>
    rw [hv] at H1
    have H1 := Lib.hid H1
    rw [rtsR_no hv]
    clear hv
    go_enter Try.func27, Try.ntmps27
    go_wp2_with (go_at_call 44; refine H1.out.mono ?_; rintro e w' ⟨rfl, rfl⟩)
    go_ret2
    exact ⟨_, _, _, rfl, OwnI.lit0 w (Nat.le_refl _), (Below.refl _ _).alloc (Nat.le_refl _) _⟩
  | true =>
    rw [hv] at H1
    have H1 := Lib.hid H1
    obtain ⟨hv1, hve, hv2, _⟩ := ringB_len hv
    have hl := lengthsB_len hv1
    have hlen := h.length
    have hin := lengthsB_in hv1
    have hfl := ringFs_length xs s
    have hap := ringFs_apart s hve
    have hpar := ringFs_par s hve
    rw [rtsR_yes hv]
    rw [hlen] at hl hve hv2 hfl hap hpar
    rw [hlen]
    have H2 := Lib.hid (spec_l2Rights true s (ringFs xs s) a n cap xs w h hl.2 (fun W b m cb ys hx hy hm => spec_l2Right true s (ringFs xs s) (bAt s) a b n cap m cb xs ys W hx hl.1 hl.2 hin hpar hap (by omega) (ringFs_hi xs s) (fun w' h' => by rw [hfl]; exact spec_l2AllFolds_ring a n cap xs s w' h' (by omega) hl.2 hin hv2) hy hm))
    clear hv hv1 hap hpar hfl hin
    generalize (perms n).filter (rightB xs (ringFs xs s)) = R at H2 ⊢
    go_enter Try.func27, Try.ntmps27
    go_wp2_with (first | (go_at_call 44; refine H1.out.mono ?_; rintro e w' ⟨rfl, rfl⟩) | (go_at_call 50; refine H2.out.mono ?_; rintro e w1 ⟨a1, N, c1, rfl, r1, b1⟩) | (go_at_call 54; refine (spec_l2First a1 N c1 R w1 w.heap.size r1 b1.size).mono ?_; rintro e w2 ⟨a2, n2, c2, rfl, o2, b2⟩))
    go_ret2
    exact ⟨_, _, _, rfl, o2, Below.call b1 b1.size b2⟩

theorem impl_RingFirst (a : Option Addr) (n cap : Nat) (xs : List Int) (s : ByteArray) (w : World) (h : Ints w a n cap xs) (hs : s.size ≤ maxLen) :
    Calls Try.prog 28 #[.slice a n cap, .string s] w (RIntsB w ((rtsR xs s).head?.getD []) (rtsR xs s).head?.isSome) := by
  have H1 := impl_RingValid a n cap xs s w h hs
  cases hv : ringB xs s with
  | false =>
    rw [hv] at H1
    have H1 := Lib.hid H1
    rw [rtsR_no hv]
    clear hv
    go_enter Try.func28, Try.ntmps28
    go_wp2_with (go_at_call 46; refine H1.out.mono ?_; rintro e w' ⟨rfl, rfl⟩)
    go_ret2
    exact ⟨_, _, _, rfl, OwnI.lit0 w (Nat.le_refl _), (Below.refl _ _).alloc (Nat.le_refl _) _⟩
  | true =>
    rw [hv] at H1
    have H1 := Lib.hid H1
    obtain ⟨hv1, hve, hv2, _⟩ := ringB_len hv
    have hl := lengthsB_len hv1
    have hlen := h.length
    have hin := lengthsB_in hv1
    have hfl := ringFs_length xs s
    have hap := ringFs_apart s hve
    have hpar := ringFs_par s hve
    rw [rtsR_yes hv]
    rw [hlen] at hl hve hv2 hfl hap hpar
    rw [hlen]
    have H2 := Lib.hid (impl_flatRing a n cap xs s w h hl.1 hl.2 hin hv2)
    have H3 := Lib.hid (fun (g : Nat) (w' : World) (hf : FlatAt w' g n xs (ringFs xs s)) => impl_firstLayers g n xs (ringFs xs s) w' hf hlen hl.1 hl.2 hpar hap (by omega))
    clear hv hv1 hap hpar hfl hin
    generalize (perms n).filter (rightB xs (ringFs xs s)) = R at H3 ⊢
    go_enter Try.func28, Try.ntmps28
    go_wp2_with (first | (go_at_call 46; refine H1.out.mono ?_; rintro e w' ⟨rfl, rfl⟩) | (go_at_call 47; refine H2.out.mono ?_; rintro e w2 ⟨g, rfl, f2, b2⟩) | (go_at_call 55; refine (H3.out _ _ f2).mono ?_; rintro e w3 ⟨a3, n3, c3, rfl, o3, b3⟩))
    go_ret2
    exact ⟨_, _, _, rfl, o3.mono b2.size, Below.call b2 b2.size b3⟩

end Go.Proofs.Yteigbpmfjiofiaa
