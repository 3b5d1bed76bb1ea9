/-
  What both RingLayers compute, by walks.
-/
import Derived.Test.YteigbpmfjiofiaaLayS
import Derived.Test.YteigbpmfjiofiaaFlatR
namespace Go.Proofs.Yteigbpmfjiofiaa
open Go.RowKit

theorem ringFs_par {xs : List Int} (s : ByteArray) (he : xs.length % 2 = 0) : parF xs.length (ringFs xs s) := fun k hk => by
  rw [ringFs_length] at hk
  rw [ringFs_at hk]
  unfold ringFd
  simp only
  rw [ring_ahead hk]
  by_cases k0 : k = 0 <;> simp only [k0, if_true, if_false] <;> omega
theorem ringFs_hi (xs : List Int) (s : ByteArray) : ∀ k, k < (ringFs xs s).length → (fdAt (ringFs xs s) k).hi = hiB (bAt s k) (fdAt (ringFs xs s) k).ah := fun k hk => by
  rw [ringFs_length] at hk
  rw [ringFs_at hk]
  rfl
/-- What RingLayers answers. -/
def layR (xs : List Int) (s : ByteArray) (ys : List Int) : Bool := ringB xs s && rightB xs (ringFs xs s) ys

theorem spec_RingLayers (a b : Option Addr) (n cap m cb : Nat) (xs ys : List Int) (s : ByteArray) (w : World) (h : Ints w a n cap xs) (hn : n ≤ 1048576) (hs : s.size ≤ maxLen) (hi : Ints w b m cb ys) (hm : m ≤ 1048576) :
    Calls Try.prog 15 #[.slice a n cap, .string s, .slice b m cb] w (RVal w (.bool (layR xs s ys))) := by
  have H1 := spec_RingValid a n cap xs s w h hn hs
  cases hv : ringB xs s with
  | false =>
    rw [hv] at H1
    have H1 := Lib.hid H1
    have HE : Hid (layR xs s ys = false) := by unfold Hid layR; rw [hv]; rfl
    clear hv
    go_enter Try.func15, Try.ntmps15
    go_wp2_with (go_at_call 44; refine H1.out.mono ?_; rintro e w' ⟨rfl, rfl⟩)
    go_ret
    exact ⟨ret_bool HE.out.symm, Below.refl _ _⟩
  | true =>
    rw [hv] at H1
    have H1 := Lib.hid H1
    obtain ⟨hv1, hve, hv2, _⟩ := ringB_len hv
    have hl := lengthsB_len hv1
    have hlen := h.length
    have hin := lengthsB_in hv1
    have hfl := ringFs_length xs s
    have hap := ringFs_apart s hve
    have hpar := ringFs_par s hve
    rw [hlen] at hl hve hv2 hfl hap hpar
    have HE : Hid (layR xs s ys = rightB xs (ringFs xs s) ys) := by unfold Hid layR; rw [hv]; rfl
    have H2 := Lib.hid (spec_l2Right true s (ringFs xs s) (bAt s) a b n cap m cb xs ys w h hl.1 hl.2 hin hpar hap (by omega) (ringFs_hi xs s) (fun w' h' => by rw [hfl]; exact spec_l2AllFolds_ring a n cap xs s w' h' (by omega) hl.2 hin hv2) hi hm)
    clear hv hv1 hap hpar hfl hin
    go_enter Try.func15, Try.ntmps15
    go_wp2_with (first | (go_at_call 44; refine H1.out.mono ?_; rintro e w' ⟨rfl, rfl⟩) | (go_at_call 45; refine H2.out.mono ?_; rintro e w2 ⟨rfl, b2⟩))
    go_ret
    exact ⟨ret_bool HE.out.symm, b2⟩

theorem impl_RingLayers (a b : Option Addr) (n cap m cb : Nat) (xs ys : List Int) (s : ByteArray) (w : World) (h : Ints w a n cap xs) (hs : s.size ≤ maxLen) (hi : Ints w b m cb ys) (hm : m ≤ 1048576) :
    Calls Try.prog 17 #[.slice a n cap, .string s, .slice b m cb] w (RVal w (.bool (layR xs s ys))) := by
  have H1 := impl_RingValid a n cap xs s w h hs
  cases hv : ringB xs s with
  | false =>
    rw [hv] at H1
    have H1 := Lib.hid H1
    have HE : Hid (layR xs s ys = false) := by unfold Hid layR; rw [hv]; rfl
    clear hv
    go_enter Try.func17, Try.ntmps17
    go_wp2_with (go_at_call 46; refine H1.out.mono ?_; rintro e w' ⟨rfl, rfl⟩)
    go_ret
    exact ⟨ret_bool HE.out.symm, Below.refl _ _⟩
  | true =>
    rw [hv] at H1
    have H1 := Lib.hid H1
    obtain ⟨hv1, hve, hv2, _⟩ := ringB_len hv
    have hl := lengthsB_len hv1
    have hlen := h.length
    have hin := lengthsB_in hv1
    have hfl := ringFs_length xs s
    have hap := ringFs_apart s hve
    have hpar := ringFs_par s hve
    rw [hlen] at hl hve hv2 hfl hap hpar
    have HE : Hid (layR xs s ys = rightB xs (ringFs xs s) ys) := by unfold Hid layR; rw [hv]; rfl
    have H2 := Lib.hid (impl_flatRing a n cap xs s w h hl.1 hl.2 hin hv2)
    have H3 := Lib.hid (fun (g : Nat) (w' : World) (hf : FlatAt w' g n xs (ringFs xs s)) (hb : Below w.heap.size w w') => impl_right g n xs (ringFs xs s) b m cb ys w' hf hlen hl.2 hpar hap (by omega) (hi.below hb) hm)
    clear hv hv1 hap hpar hfl hin
    go_enter Try.func17, Try.ntmps17
    go_wp2_with (first | (go_at_call 46; refine H1.out.mono ?_; rintro e w' ⟨rfl, rfl⟩) | (go_at_call 47; refine H2.out.mono ?_; rintro e w2 ⟨g, rfl, f2, b2⟩) | (go_at_call 48; refine (H3.out _ _ f2 b2).mono ?_; rintro e w3 ⟨rfl, b3⟩))
    go_ret
    exact ⟨ret_bool HE.out.symm, Below.call b2 b2.size b3⟩

end Go.Proofs.Yteigbpmfjiofiaa
