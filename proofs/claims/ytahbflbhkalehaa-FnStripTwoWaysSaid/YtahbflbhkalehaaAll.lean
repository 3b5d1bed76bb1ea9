/-
  What l2Has and l2All compute, by a walk through each.
-/
import Derived.Test.YtahbflbhkalehaaHelp
import Derived.Test.YtahbflbhkalehaaMemR
import Derived.Test.YtahbflbhkalehaaPlainC
namespace Go.Proofs.Ytahbflbhkalehaa
open Go.RowKit

theorem tyLists : ElemTy Try.prog 38 23 1 24 (.slice none 0 0) :=
  ⟨Try.underlying38, info_parts (by kernel_rfl), rfl, by omega⟩

theorem not_mem_take {xs : List Int} {x : Int} {k : Nat} (hk : k < xs.length) (h : x ∉ xs.take k) (hne : ¬ xs[k]?.getD 0 = x) : x ∉ xs.take (k + 1) := by
  rw [take_snocI xs k hk, List.mem_append, List.mem_singleton]
  rintro (q | q)
  · exact h q
  · exact hne q.symm

set_option maxHeartbeats 400000 in
theorem spec_l2Has (a : Option Addr) (n cap : Nat) (xs : List Int) (x : Int) (w : World) (h : Ints w a n cap xs) (hn : n ≤ 1048576) :
    Calls Try.prog 45 #[.slice a n cap, .int .i64 x] w fun e w' => e = .returned (.bool (decide (x ∈ xs))) ∧ w = w' := by
  have H := Lib.hid h.length
  have hle := h.le_cap
  go_enter Try.func45, Try.ntmps45
  go_wp2
  go_loop [5] (fun i => ∃ k : Nat, k ≤ n ∧ i = .int .i64 k ∧ Hid (x ∉ xs.take k)) (fun i => n - (intOf i).toNat)
  case atStart => exact ⟨0, Nat.zero_le _, rfl, by unfold Hid; simp⟩
  case round =>
    obtain ⟨k, hk, rfl, HA⟩ := hrel
    by_cases hlt : k < n
    · obtain ⟨b, off, rfl, hc⟩ := h.cells (by omega)
      have hck := hc k hlt
      clear hc
      by_cases he : xs[k]?.getD 0 = x
      · have he1 : (xs[k]?.getD 0 == x) = true := by rw [beq_iff_eq]; exact he
        have HT : Hid (x ∈ xs) := by have := mem_getI xs k (by rw [H.out]; exact hlt); rw [he] at this; exact this
        clear he HA
        go_wp2
        go_ret
        exact ⟨ret_bool (decide_eq_true HT.out).symm, rfl⟩
      · have he1 : (xs[k]?.getD 0 == x) = false := by rw [beq_eq_false_iff_ne]; exact he
        have HA1 := Lib.hid (not_mem_take (by rw [H.out]; exact hlt) HA.out he)
        clear he HA
        go_wp2
        go_round
        case rel => exact ⟨k + 1, by omega, by go_num, HA1⟩
        case measure => simp [intOf]; omega
    · have HF : Hid (x ∉ xs) := by have := HA.out; rwa [take_allI xs k (by rw [H.out]; omega)] at this
      clear HA
      go_wp2
      go_ret
      exact ⟨ret_bool (decide_eq_false HF.out).symm, rfl⟩

/-- The lists whose next number is below k. -/
def partL (n f : Nat) (b : List Int) (k : Nat) : List (List Int) := (upI k).flatMap fun i => if i ∈ b then [] else allL n f (b ++ [i])
theorem partL_zero (n f : Nat) (b : List Int) : partL n f b 0 = [] := rfl
theorem partL_yes {n f : Nat} {b : List Int} {k : Nat} (h : (k : Int) ∈ b) : partL n f b (k + 1) = partL n f b k := by
  unfold partL
  rw [show upI (k + 1) = upI k ++ [(k : Int)] by unfold upI; rw [List.range_succ, List.map_append]; rfl, List.flatMap_append]
  simp [h]
theorem partL_no {n f : Nat} {b : List Int} {k : Nat} (h : (k : Int) ∉ b) : partL n f b (k + 1) = partL n f b k ++ allL n f (b ++ [(k : Int)]) := by
  unfold partL
  rw [show upI (k + 1) = upI k ++ [(k : Int)] by unfold upI; rw [List.range_succ, List.map_append]; rfl, List.flatMap_append]
  simp [h]
theorem flatMap_length_le {α β : Type} (g : α → List β) (B : Nat) : ∀ l : List α, (∀ x ∈ l, (g x).length ≤ B) → (l.flatMap g).length ≤ l.length * B := by
  intro l
  induction l with
  | nil => intro _; simp
  | cons x r ih =>
    intro h
    have h1 := h x (by simp)
    have h2 := ih fun y hy => h y (by simp [hy])
    rw [List.flatMap_cons, List.length_append, List.length_cons, Nat.succ_mul]
    omega
theorem allL_length (n : Nat) : ∀ (f : Nat) (b : List Int), (allL n f b).length ≤ n ^ f := by
  intro f
  induction f with
  | zero => intro b; simp [allL]
  | succ f ih =>
    intro b
    have h := flatMap_length_le (fun i => if i ∈ b then [] else allL n f (b ++ [i])) (n ^ f) (upI n) fun i _ => by
      by_cases hb : i ∈ b
      · simp only [if_pos hb]; simp
      · simp only [if_neg hb]; exact ih _
    rw [upI_length] at h
    rw [Nat.pow_succ, Nat.mul_comm]
    exact h
theorem pow7 {n f : Nat} (hn : n ≤ 7) (hf : f ≤ 7) : n ^ f ≤ 823543 := by
  have h1 : n ^ f ≤ 7 ^ f := Nat.pow_le_pow_left hn f
  have h2 : 7 ^ f ≤ 7 ^ 7 := Nat.pow_le_pow_right (by omega) hf
  have h3 : 7 ^ 7 = 823543 := by decide
  omega
theorem allL_small {n f : Nat} (hn : n ≤ 7) (hf : f ≤ 7) (b : List Int) : (allL n f b).length ≤ 823543 := Nat.le_trans (allL_length n f b) (pow7 hn hf)
theorem partL_small {n f : Nat} {b : List Int} {k : Nat} (hk : k ≤ n) (hn : n ≤ 7) (hf : f + 1 ≤ 7) : (partL n f b k).length ≤ 823543 := by
  have h := flatMap_length_le (fun i => if i ∈ b then [] else allL n f (b ++ [i])) (n ^ f) (upI k) fun i _ => by
    by_cases hb : i ∈ b
    · simp only [if_pos hb]; simp
    · simp only [if_neg hb]; exact allL_length n f _
  rw [upI_length] at h
  have h1 : k * n ^ f ≤ n * n ^ f := Nat.mul_le_mul_right _ hk
  have h2 : n * n ^ f = n ^ (f + 1) := by rw [Nat.pow_succ, Nat.mul_comm]
  have h3 := pow7 hn hf
  exact Nat.le_trans h (by omega)

set_option maxHeartbeats 2000000 in
theorem spec_l2All (n : Nat) (hn : n ≤ 7) : ∀ (f : Nat) (b : List Int) (a : Option Addr) (m cap base : Nat) (w : World), m + f = n → OwnI w base a m cap b → base ≤ w.heap.size →
    Calls Try.prog 30 #[.int .i64 n, .slice a m cap] w (RRows w base (allL n f b)) := by
  intro f
  induction f with
  | zero =>
    intro b a m cap base w hm ho hb
    obtain rfl : m = n := by omega
    have hle := ho.ints.le_cap
    go_enter Try.func30, Try.ntmps30
    go_wp2_with fail
    go_ret
    exact ⟨_, _, _, rfl, RowsI.lit1 w hb ho, (Below.refl _ _).alloc (Nat.le_refl _) _⟩
  | succ f ih =>
    intro b a m cap base w hm ho hb
    have hle := ho.ints.le_cap
    have hne : ((m : Int) == (n : Int)) = false := by rw [beq_eq_false_iff_ne]; omega
    have hf7 : f + 1 ≤ 7 := by omega
    have hm7 : m + 1 ≤ n := by omega
    have HM : Hid (m + 1 + f = n) := by unfold Hid; omega
    have IH := Lib.hid ih
    clear hm ih
    go_enter Try.func30, Try.ntmps30
    go_wp2_with fail
    go_loopw [5, 6] (fun v i wr => ∃ (k : Nat) (A : Option Addr) (q c : Nat), k ≤ n ∧ i = .int .i64 k ∧ v = .slice A q c ∧ RowsI wr w.heap.size A q c (partL n f b k) ∧ Below w.heap.size w wr) (fun _ i _ => n - (intOf i).toNat)
    case atStart => exact ⟨0, _, _, _, Nat.zero_le _, rfl, rfl, RowsI.lit0 w (Nat.le_refl _), (Below.refl _ _).alloc (Nat.le_refl _) _⟩
    case round =>
      obtain ⟨k, A, q, c, hk, rfl, rfl, HO, hB⟩ := hrel
      have hqc := HO.le_cap
      have hq : q ≤ 823543 := by rw [← HO.length]; exact partL_small hk hn hf7
      by_cases hlt : k < n
      · have ho1 := ho.below hB
        have H1 := spec_l2Has a m cap b (k : Int) wr ho1.ints (by omega)
        by_cases hin : (k : Int) ∈ b
        · rw [decide_eq_true hin] at H1
          have H1 := Lib.hid H1
          have HP := Lib.hid (partL_yes (n := n) (f := f) hin)
          clear hin
          go_wp2_with (go_at_call 45; refine H1.out.mono ?_; rintro e w' ⟨rfl, rfl⟩)
          go_roundw
          case rel => exact ⟨k + 1, A, q, c, by omega, by go_num, rfl, by rw [HP.out]; exact HO, hB⟩
          case measure => simp [intOf]; omega
        · rw [decide_eq_false hin] at H1
          have H1 := Lib.hid H1
          have HP := Lib.hid (partL_no (n := n) (f := f) hin)
          have hs4 := allL_small (f := f) hn (by omega) (b ++ [(k : Int)])
          clear hin
          go_wp2_with (first
            | (go_at_call 45; refine H1.out.mono ?_; rintro e w' ⟨rfl, rfl⟩)
            | (at_builtin; refine wpList_append_ints tyInts rfl (.tmp 25) (.tmp 26) rfl wr.heap.size (some ⟨wr.heap.size, 0, none⟩) 0 0 [] rfl (OwnI.lit0 wr (Nat.le_refl _)) a m cap b rfl (ho1.ints.below ((Below.refl _ _).alloc (Nat.le_refl _) _)) (by omega) (by simp) ?_; intro A2 c2 w2 o2 g2 e2; have b2 := Below.appended ((Below.refl wr.heap.size wr).alloc (Nat.le_refl _) _) (by simp) g2 (fun x e => by cases e; exact Nat.le_refl _); clear g2 e2; simp only [Nat.zero_add, List.nil_append] at o2)
            | (at_builtin; refine wpList_append_int tyInts rfl (.tmp 27) (.tmp 29) rfl wr.heap.size A2 m c2 b rfl (o2.below ((Below.refl _ _).alloc (Nat.le_refl _) _)) w2.heap.size (k : Int) rfl (by simp) (by omega) (by have := b2.size; simp; omega) ?_; intro A3 c3 w3 o3 g3 e3; have b3 := Below.appended (b2.alloc b2.size _) (by have := b2.size; simp; omega) g3 o2.base_le; clear g3 e3)
            | (go_at_call 30; refine (IH.out (b ++ [(k : Int)]) A3 (m + 1) c3 wr.heap.size w3 HM.out o3 b3.size).mono ?_; rintro e w4 ⟨A4, n4, c4, rfl, r4, b4⟩; have hn4 : n4 ≤ 823543 := r4.length ▸ hs4; have b5 := Below.call b3 b3.size b4; have b6 := Below.call hB hB.size b5)
            | (at_builtin; refine wpList_append_rows tyLists rfl (.tmp 23) (.tmp 31) rfl w.heap.size A q c (partL n f b k) rfl (HO.below b5) A4 n4 c4 _ rfl (r4.mono hB.size) (by omega) b6.size ?_; intro A5 c5 w5 r5 g5 e5; have b7 := Below.appended b6 b6.size g5 HO.base_le; clear g5 e5))
          go_roundw
          case rel => exact ⟨k + 1, A5, q + n4, c5, by omega, by go_num, rfl, by rw [HP.out]; exact r5, b7⟩
          case measure => simp [intOf]; omega
      · have hkn : k = n := by omega
        have HE : Hid (partL n f b k = allL n (f + 1) b) := by unfold Hid; rw [hkn]; rfl
        clear hkn
        go_wp2_with fail
        go_ret
        rw [HE.out] at HO
        exact ⟨_, _, _, rfl, HO.mono hb, hB⟩

end Go.Proofs.Ytahbflbhkalehaa
