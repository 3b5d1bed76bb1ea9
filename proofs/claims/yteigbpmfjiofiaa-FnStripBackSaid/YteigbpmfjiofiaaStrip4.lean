/-
  What StripBack computes, in the reference and in the program, by a walk through each.
-/
import Derived.Test.YteigbpmfjiofiaaStrip3
import Derived.Test.YteigbpmfjiofiaaPlainF
namespace Go.Proofs.Yteigbpmfjiofiaa
open Go.RowKit

theorem spec_StripBack (a : Option Addr) (n cap : Nat) (xs : List Int) (s : ByteArray) (w : World) (h : Ints w a n cap xs) (hn : n ≤ 1048576) (hs : s.size ≤ 1048576) :
    Calls Try.prog 43 #[.slice a n cap, .string s] w (if stripB xs s then RIntsSB w xs.reverse (revS s) true else RIntsSB w [] ByteArray.empty false) := by
  have H1 := spec_StripValid a n cap xs s w h hn (by unfold maxLen; omega)
  cases hv : stripB xs s with
  | true =>
    have H2 := Lib.hid (spec_l1Back a n cap xs w h hn)
    have H3 := Lib.hid (fun W => spec_l2Text s W hs)
    rw [hv] at H1
    have H1 := Lib.hid H1
    clear hv
    rw [if_pos rfl]
    go_enter Try.func43, Try.ntmps43
    go_wp2_with (first | (go_at_call 49; refine H1.out.mono ?_; rintro e w' ⟨rfl, rfl⟩) | (go_at_call 60; refine H2.out.mono ?_; rintro e w1 ⟨a1, n1, c1, rfl, o1, b1⟩) | (go_at_call 61; refine (H3.out _).mono ?_; rintro e w' ⟨rfl, rfl⟩))
    go_ret3
    exact ⟨_, _, _, rfl, o1, b1⟩
  | false =>
    rw [hv] at H1
    have H1 := Lib.hid H1
    clear hv
    rw [if_neg (by simp)]
    go_enter Try.func43, Try.ntmps43
    go_wp2_with (first | (go_at_call 49; refine H1.out.mono ?_; rintro e w' ⟨rfl, rfl⟩))
    go_ret3
    exact ⟨_, _, _, rfl, OwnI.lit0 _ (Nat.le_refl _), (Below.refl _ _).alloc (Nat.le_refl _) _⟩

theorem tyBytes : ElemTy Try.prog 31 5 1 1 (.int .u8 0) :=
  ⟨Try.underlying31, info_parts (by kernel_rfl), rfl, by omega⟩

/-- make([]byte, n). -/
theorem wpList_make_bytes {P : Program} {t : TypeId} (T : ElemTy P t 5 1 1 (.int .u8 0)) {w : World} {ops : Array Oper} {rest : List Oper} {o : Oper} {a : Act} {Q : Exit → Act → World → Prop}
    (hg : o.guard = none) (l c : Operand) (hop : o.op = Op.makeSlice t l c) (L C : Int) (n : Nat) (hl : a.eval l = .int .i64 L) (hc : a.eval c = .int .i64 C) (hL : L = (n : Int)) (hC : C = (n : Int))
    (b2 : n ≤ 2000000)
    (hK : ∀ w', RowB w' w.heap.size n (List.replicate n 0) → w.grownBy w' none → wpList P ops Q rest (a.put o.dst (.slice (some ⟨w.heap.size, 0, none⟩) n n)) w') :
    wpList P ops Q (o :: rest) a w := by
  refine wpList_make T hg l c hop w.heap.size L C n hl hc hL hC (by omega) (by unfold maxLen; omega) (Nat.le_refl _) fun w' h1 h2 => hK w' ?_ h2
  have h3 := h1
  rw [show (Value.int IntKind.u8 0).cells = #[Value.int .u8 0] from rfl, Nat.mul_one, toList_madeCells_one] at h3
  refine RowB.of_own (base := w.heap.size) (cap := n) (e := 5) ?_
  rw [List.map_replicate]
  exact h3

/-- The bytes as numbers, from the end, the first k of them laid. -/
def bytesRev (s : ByteArray) : List Int := s.data.toList.reverse.map fun c => (c.toNat : Int)
def backTo (s : ByteArray) (k : Nat) : List Int := (bytesRev s).take k ++ List.replicate (s.size - k) 0
theorem bytesRev_length (s : ByteArray) : (bytesRev s).length = s.size := by
  have h1 := size_list s
  unfold bytesRev
  rw [List.length_map, List.length_reverse, h1]
theorem bytesRev_get (s : ByteArray) (k : Nat) (h : k < s.size) : (bytesRev s)[k]?.getD 0 = (s[s.size - 1 - k].toNat : Int) := by
  have h1 := size_list s
  unfold bytesRev
  rw [List.getElem?_map, List.getElem?_reverse (by omega), h1, byte_get s (s.size - 1 - k) (by omega)]
  rfl
theorem backTo_zero (s : ByteArray) : backTo s 0 = List.replicate s.size 0 := by simp [backTo]
theorem backTo_set (s : ByteArray) (k : Nat) (h : k < s.size) : (backTo s k).set k (s[s.size - 1 - k].toNat : Int) = backTo s (k + 1) := by
  unfold backTo
  rw [← bytesRev_get s k h, set_take_drop _ k s.size (bytesRev_length s) h]
theorem backTo_all (s : ByteArray) (k : Nat) (h : s.size ≤ k) : strOfNums (backTo s k) = revS s := by
  apply ByteArray.ext
  unfold backTo revS strOfNums
  rw [List.take_of_length_le (by rw [bytesRev_length]; omega), show s.size - k = 0 by omega]
  apply Array.toList_inj.1
  have e : ((fun n : Int => UInt8.ofNat n.toNat) ∘ fun c : UInt8 => (c.toNat : Int)) = id := funext fun c => by simp
  simp [bytesRev, e]

set_option maxHeartbeats 2000000 in
theorem impl_StripBack (a : Option Addr) (n cap : Nat) (xs : List Int) (s : ByteArray) (w : World) (h : Ints w a n cap xs) (hs : s.size ≤ 1048576) :
    Calls Try.prog 42 #[.slice a n cap, .string s] w (if stripB xs s then RIntsSB w xs.reverse (revS s) true else RIntsSB w [] ByteArray.empty false) := by
  have H1 := impl_StripValid a n cap xs s w h (by unfold maxLen; omega)
  cases hv : stripB xs s with
  | true =>
    have hl := stripB_len hv
    have hl1 : s.size + 1 = n := by rw [hl.2.1]; exact h.length
    have hl2 := (lengthsB_len hl.1).2
    rw [h.length] at hl2
    rw [hv] at H1
    have H1 := Lib.hid H1
    have H := Lib.hid h.length
    have hle := h.le_cap
    clear hv hl
    have HN := Lib.hid hl1
    have hn1 : s.size + 1 ≤ n := by omega
    have hn2 : n ≤ s.size + 1 := by omega
    clear hl1
    rw [if_pos rfl]
    go_enter Try.func42, Try.ntmps42
    go_wp2_with (first | (go_at_call 51; refine H1.out.mono ?_; rintro e w' ⟨rfl, rfl⟩) | (at_make; refine wpList_make_ints tyInts rfl (.tmp 20) (.tmp 20) rfl w.heap.size _ _ n rfl rfl rfl rfl (by omega) (Nat.le_refl _) ?_; intro w1 hown hg))
    have hB : Below w.heap.size w w1 := (Below.refl _ _).grown hg (Nat.le_refl _) (by simp)
    have hz1 : w.heap.size < w1.heap.size := by
      rcases Own.form hown with ⟨h0, _⟩ | ⟨g, h0, _, h1⟩
      · cases h0
      · cases h0; exact h1
    clear hg
    go_loopw [24] (fun i wr => ∃ k : Nat, k ≤ n ∧ i = .int .i64 k ∧ OwnI wr w.heap.size (some ⟨w.heap.size, 0, none⟩) n n (List.replicate (n - k) 0 ++ (xs.take k).reverse) ∧ Below w.heap.size w wr ∧ w.heap.size < wr.heap.size) (fun i _ => n - (intOf i).toNat)
    case atStart => exact ⟨0, Nat.zero_le _, rfl, by simpa using hown, hB, hz1⟩
    case round =>
      obtain ⟨k, hk, rfl, HO, hBr, hz⟩ := hrel
      by_cases hlt : k < n
      · obtain ⟨b, off, rfl, hc⟩ := (h.below hBr).cells (by omega)
        have hck := hc k hlt
        have hgk := HO.cell (j := n - 1 - k) (by omega)
        have hfk := HO.frozen (n - 1 - k)
        clear hc
        go_wp2
        go_roundw
        case rel => exact ⟨k + 1, by omega, by go_num, by have := HO.stored (n - 1 - k) (xs[k]?.getD 0); rwa [rev_set xs k n H.out hlt] at this, hBr.setCell (p := ⟨w.heap.size, n - 1 - k, none⟩) (Nat.le_refl _) _, by simpa [World.setCell] using hz⟩
        case measure => simp [intOf]; omega
      · have HO : OwnI wr w.heap.size (some ⟨w.heap.size, 0, none⟩) n n xs.reverse := by
          rwa [show n - k = 0 by omega, List.take_of_length_le (by rw [H.out]; omega), List.replicate_zero, List.nil_append] at HO
        obtain ⟨wo, rfl⟩ : ∃ wo : World, wo = wr := ⟨_, rfl⟩
        go_wp2_with (at_make; refine wpList_make_bytes tyBytes rfl (.tmp 38) (.tmp 38) rfl _ _ s.size rfl rfl (by omega) (by omega) (by omega) ?_; intro w2 hrow hg)
        have hB2 : Below w.heap.size w w2 := hBr.grown hg (Nat.le_of_lt hz) (by simp)
        have HO2 : OwnI w2 w.heap.size (some ⟨w.heap.size, 0, none⟩) n n xs.reverse := Own.kept HO hg (by simp)
        have hz2 : w.heap.size < wo.heap.size := hz
        clear hg
        go_loopw [42] (fun i wr => ∃ k : Nat, k ≤ s.size ∧ i = .int .i64 k ∧ RowB wr wo.heap.size s.size (backTo s k) ∧ OwnI wr w.heap.size (some ⟨w.heap.size, 0, none⟩) n n xs.reverse ∧ Below w.heap.size w wr) (fun i _ => s.size - (intOf i).toNat)
        case atStart => exact ⟨0, Nat.zero_le _, rfl, by rw [backTo_zero]; exact hrow, HO2, hB2⟩
        case round =>
          obtain ⟨m, hm, rfl, HR, HO3, hB3⟩ := hrel
          by_cases hlt2 : m < s.size
          · have hck := HR.cell m hlt2
            have hfk := HR.free m hlt2
            have hi1 : ((n : Int) - 2 - m).toNat = s.size - 1 - m := by omega
            go_wp2
            go_roundw
            case rel => exact ⟨m + 1, by omega, by go_num, by have := HR.stored m (s[s.size - 1 - m].toNat : Int); rw [backTo_set s m hlt2] at this; exact this, HO3.put_other _ (fun x hx => by cases hx; exact Nat.ne_of_lt hz2), hB3.setCell (p := ⟨wo.heap.size, m, none⟩) (Nat.le_of_lt hz2) _⟩
            case measure => simp [intOf]; omega
          · have hrun := run_convert_bytes_arg (P := Try.prog) wr.drew 31 5 Try.underlying31 Try.underlying5 wo.heap.size 0 s.size s.size (backTo s m) HR.len (fun i hi => by rw [Nat.zero_add]; simpa [List.getD_eq_getElem?_getD] using HR.cell i hi) 9 Try.underlying9
            rw [backTo_all s m (by omega)] at hrun
            go_wp2
            go_region
            all_goals
              clear hrun
              go_wp2
              go_ret3
              exact ⟨_, _, _, rfl, HO3.drew, hB3.drew⟩
  | false =>
    rw [hv] at H1
    have H1 := Lib.hid H1
    clear hv
    rw [if_neg (by simp)]
    go_enter Try.func42, Try.ntmps42
    go_wp2_with (first | (go_at_call 51; refine H1.out.mono ?_; rintro e w' ⟨rfl, rfl⟩))
    go_ret3
    exact ⟨_, _, _, rfl, OwnI.lit0 _ (Nat.le_refl _), (Below.refl _ _).alloc (Nat.le_refl _) _⟩

end Go.Proofs.Yteigbpmfjiofiaa
