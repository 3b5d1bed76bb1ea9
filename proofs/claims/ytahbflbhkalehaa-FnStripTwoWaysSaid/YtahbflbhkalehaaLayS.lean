/-
  What both StripLayers compute, by walks.
-/
import Derived.Test.YtahbflbhkalehaaFlatT
namespace Go.Proofs.Ytahbflbhkalehaa
open Go.RowKit

theorem stripFs_par (xs : List Int) (s : ByteArray) : parF xs.length (stripFs xs s) := fun k hk => by
  rw [stripFs_length] at hk
  rw [stripFs_at hk]
  exact ⟨show k < xs.length by omega, show k + 1 < xs.length by omega, rfl⟩
theorem stripFs_hi (xs : List Int) (s : ByteArray) : ∀ k, k < (stripFs xs s).length → (fdAt (stripFs xs s) k).hi = hiB (bAt s k) (fdAt (stripFs xs s) k).ah := fun k hk => by
  rw [stripFs_length] at hk
  rw [stripFs_at hk]
  rfl
/-- What StripLayers answers. -/
def layB (xs : List Int) (s : ByteArray) (ys : List Int) : Bool := stripB xs s && rightB xs (stripFs xs s) ys

theorem impl_StripLayers (a b : Option Addr) (n cap m cb : Nat) (xs ys : List Int) (s : ByteArray) (w : World) (h : Ints w a n cap xs) (hs : s.size ≤ maxLen) (hi : Ints w b m cb ys) (hm : m ≤ 1048576) :
    Calls Try.prog 9 #[.slice a n cap, .string s, .slice b m cb] w (RVal w (.bool (layB xs s ys))) := by
  have H1 := impl_StripValid a n cap xs s w h hs
  cases hv : stripB xs s with
  | false =>
    rw [hv] at H1
    have H1 := Lib.hid H1
    have HE : Hid (layB xs s ys = false) := by unfold Hid layB; rw [hv]; rfl
    clear hv
    go_enter Try.func9, Try.ntmps9
    go_wp2_with (go_at_call 12; refine H1.out.mono ?_; rintro e w' ⟨rfl, rfl⟩)
    go_ret
    exact ⟨ret_bool HE.out.symm, Below.refl _ _⟩
  | true =>
    rw [hv] at H1
    have H1 := Lib.hid H1
    obtain ⟨hv1, hv2, _⟩ := stripB_len hv
    have hl := lengthsB_len hv1
    have hlen := h.length
    have hin := lengthsB_in hv1
    have hfl := stripFs_length xs s
    have hap := stripFs_apart xs s
    have hpar := stripFs_par xs s
    rw [hlen] at hl hv2 hfl hap hpar
    have HE : Hid (layB xs s ys = rightB xs (stripFs xs s) ys) := by unfold Hid layB; rw [hv]; rfl
    have H2 := Lib.hid (impl_flatStrip a n cap xs s w h hl.1 hl.2 hin hv2)
    have H3 := Lib.hid (fun (g : Nat) (w' : World) (hf : FlatAt w' g n xs (stripFs xs s)) (hb : Below w.heap.size w w') => impl_right g n xs (stripFs xs s) b m cb ys w' hf hlen hl.2 hpar hap (by omega) (hi.below hb) hm)
    clear hv hv1 hap hpar hfl hin
    go_enter Try.func9, Try.ntmps9
    go_wp2_with (first | (go_at_call 12; refine H1.out.mono ?_; rintro e w' ⟨rfl, rfl⟩) | (go_at_call 13; refine H2.out.mono ?_; rintro e w2 ⟨g, rfl, f2, b2⟩) | (go_at_call 19; refine (H3.out _ _ f2 b2).mono ?_; rintro e w3 ⟨rfl, b3⟩))
    go_ret
    exact ⟨ret_bool HE.out.symm, Below.call b2 b2.size b3⟩

end Go.Proofs.Ytahbflbhkalehaa
