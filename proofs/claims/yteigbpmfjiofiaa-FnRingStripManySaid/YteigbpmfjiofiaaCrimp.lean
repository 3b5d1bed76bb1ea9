/-
  What the reference's l1Crimp hands back: a list and a text, two shorter; of what they are nothing more is said.
-/
import Derived.Test.YteigbpmfjiofiaaDraw2
import Derived.Deep.QuietTactic
import Derived.BigQuiet
import Derived.Deep.RegionLaw
import Derived.RegionTactic
import Derived.IntWalk
namespace Go.Proofs.Yteigbpmfjiofiaa
open Go.RowKit

/-- A list and a text of so many. -/
def RLTn (w : World) (m : Nat) (e : Ending) (w' : World) : Prop := ∃ (a : Option Addr) (cap : Nat) (ys : List Int) (t : ByteArray), e = .returned (.tuple #[.slice a m cap, .string t]) ∧ Ints w' a m cap ys ∧ t.size = m ∧ Below w.heap.size w w'
theorem OwnI.one {W : World} {g base : Nat} {x : Int} (h : W.heap[g]? = some (.cells #[.int .i64 x] 3 (0, 0))) (hb : base ≤ g) : OwnI W base (some ⟨g, 0, none⟩) 1 1 [x] :=
  ⟨rfl, .inr ⟨g, 1, #[.int .i64 x], rfl, hb, h, Nat.le_refl _, by unfold maxLen; omega, rfl, rfl⟩⟩
theorem OwnI.none0 {W : World} {g base : Nat} (h : W.heap[g]? = some (.cells #[] 3 (0, 0))) (hb : base ≤ g) : OwnI W base (some ⟨g, 0, none⟩) 0 0 [] :=
  ⟨rfl, .inr ⟨g, 0, #[], rfl, hb, h, Nat.le_refl _, by unfold maxLen; omega, rfl, rfl⟩⟩
theorem wrap_small : ∀ x : Int, -1000 ≤ x → x ≤ 1000 → IntKind.i64.wrap x = x := fun x h1 h2 => IntWalk.i64_in _ (by omega)
theorem Ints.part {w : World} {b off n cap : Nat} {xs : List Int} (h : Ints w (some ⟨b, off, none⟩) n cap xs) {i m : Nat} (him : i + m ≤ n) (hc : i < cap) : Ints w (some ⟨b, off + i, none⟩) m (cap - i) ((xs.drop i).take m) := by
  have h1 := h.cut' (k := i) (by omega) hc
  rw [Option.map_some, add_addr] at h1
  exact h1.head (by omega)
theorem cell_alloc_1 (W : World) (v : Value) (t : TypeId) : (W.alloc (.cells #[v] t)).cell? ⟨W.heap.size, 0, none⟩ = some v := by simp
theorem size_part {s : ByteArray} {i j : Nat} (hj : j ≤ s.size) : (s.extract i j).size = j - i := by rw [ByteArray.size_extract]; omega

set_option maxRecDepth 100000 in
set_option maxHeartbeats 1000000 in
theorem crimp_4_0 (b off cap : Nat) (xs : List Int) (s : ByteArray) (w : World) (h : Ints w (some ⟨b, off, none⟩) 4 cap xs) (hs : s.size = 4) :
    Calls Try.prog 94 #[.slice (some ⟨b, off, none⟩) 4 cap, .string s, .int .i64 0] w (RLTn w 2) := by
  have hle := h.le_cap
  have hmx := h.cap_max
  have hwr := wrap_small
  obtain ⟨b', off', e, hc⟩ := h.cells (by omega)
  cases e
  have h1 := hc 3 (by omega)
  have h2 := hc 1 (by omega)
  have h3 := hc 0 (by omega)
  rw [Nat.add_zero] at h3
  clear hc
  generalize xs[3]?.getD 0 = X0 at h1
  generalize xs[1]?.getD 0 = X1 at h2
  generalize xs[0]?.getD 0 = X2 at h3
  have HX := Lib.hid h
  clear h
  have hcI : (4 : Int) ≤ (cap : Int) := by omega
  go_enter Try.func94, Try.ntmps94
  go_wp2_with fail
  go_quiet (fail)
  have HXq := HX.out.below (below_drewN (Below.refl _ _) nq)
  have Bq := below_drewN (Below.refl w.heap.size w) nq
  have hzq := Bq.size
  clear h1 h2 h3 HX
  generalize w.drewN nq = wq at HXq Bq hzq ⊢
  go_wp2_with fail
  have hadd : ∀ W : World, (Op.stringOp .add (s.extract 3 4) (s.extract 2 3)).run Try.prog W = .ok (.string (s.extract 3 4 ++ s.extract 2 3)) W := fun W => run_string_add_sum (P := Try.prog) W _ _ (by rw [size_part (by omega), size_part (by omega)]; omega)
  have hsz : (s.extract 3 4 ++ s.extract 2 3).size = 2 := by rw [ByteArray.size_append, size_part (by omega), size_part (by omega)]
  have HSZ := Lib.hid hsz
  clear hsz
  have hsI : (s.size : Int) = 4 := by omega
  have hcm : (3 : Int) ≤ (cap : Int) := by omega
  have hcne : ¬ cap = 2 := by omega
  go_region_law (refine step_append_ints tyInts rfl (.tmp 39) (.tmp 43) rfl wq.heap.size (some ⟨wq.heap.size, 0, none⟩) 1 1 _ rfl (OwnI.one (heap_alloc_new wq _) (Nat.le_refl _)) (some ⟨b, off + 2, none⟩) 1 (cap - 2) _ rfl (Ints.below (Ints.part HXq (i := 2) (m := 1) (by omega) (by omega)) (((Below.refl _ _).alloc (Nat.le_refl _) _).drew)) (by omega) (by simp) ?_; intro A5 c5 w5 o5 g5 e5; have b5 := Below.appended (((Below.refl wq.heap.size wq).alloc (Nat.le_refl _) _).drew) (by simp) g5 (fun x hx => by cases hx; exact Nat.le_refl _); clear g5 e5)
  all_goals
    go_wp2_with fail
    go_ret2
    exact ⟨_, _, _, _, rfl, o5.ints, (by first | exact HSZ.out | exact size_part (by omega)), Bq.trans (b5.mono hzq)⟩

set_option maxRecDepth 100000 in
set_option maxHeartbeats 1000000 in
theorem crimp_4_1 (b off cap : Nat) (xs : List Int) (s : ByteArray) (w : World) (h : Ints w (some ⟨b, off, none⟩) 4 cap xs) (hs : s.size = 4) :
    Calls Try.prog 94 #[.slice (some ⟨b, off, none⟩) 4 cap, .string s, .int .i64 1] w (RLTn w 2) := by
  have hle := h.le_cap
  have hmx := h.cap_max
  have hwr := wrap_small
  obtain ⟨b', off', e, hc⟩ := h.cells (by omega)
  cases e
  have h1 := hc 0 (by omega)
  rw [Nat.add_zero] at h1
  have h2 := hc 2 (by omega)
  have h3 := hc 1 (by omega)
  clear hc
  generalize xs[0]?.getD 0 = X0 at h1
  generalize xs[2]?.getD 0 = X1 at h2
  generalize xs[1]?.getD 0 = X2 at h3
  have HX := Lib.hid h
  clear h
  have hcI : (4 : Int) ≤ (cap : Int) := by omega
  go_enter Try.func94, Try.ntmps94
  go_wp2_with fail
  go_quiet (fail)
  have HXq := HX.out.below (below_drewN (Below.refl _ _) nq)
  have Bq := below_drewN (Below.refl w.heap.size w) nq
  have hzq := Bq.size
  clear h1 h2 h3 HX
  generalize w.drewN nq = wq at HXq Bq hzq ⊢
  have hadd : ∀ W : World, (Op.stringOp .add (s.extract 0 1) (s.extract 3 4)).run Try.prog W = .ok (.string (s.extract 0 1 ++ s.extract 3 4)) W := fun W => run_string_add_sum (P := Try.prog) W _ _ (by rw [size_part (by omega), size_part (by omega)]; omega)
  have hsz : (s.extract 0 1 ++ s.extract 3 4).size = 2 := by rw [ByteArray.size_append, size_part (by omega), size_part (by omega)]
  have HSZ := Lib.hid hsz
  clear hsz
  have hsI : (s.size : Int) = 4 := by omega
  have hcm : (0 : Int) ≤ (cap : Int) := by omega
  have hcn0 : ¬ cap = 0 := by omega
  have hcne : ¬ cap = 3 := by omega
  go_wp2_with (first
    | (at_builtin; refine wpList_append_ints tyInts rfl (.tmp 76) (.tmp 80) rfl wq.heap.size (some ⟨wq.heap.size, 0, none⟩) 0 0 [] rfl (OwnI.lit0 wq (Nat.le_refl _)) (some ⟨b, off, none⟩) 0 cap (xs.take 0) rfl (Ints.below (Ints.head HXq (k := 0) (by omega)) ((Below.refl _ _).alloc (Nat.le_refl _) _)) (by omega) (by simp) ?_; intro A3 c3 w3 o3 g3 e3; have b3 := Below.appended ((Below.refl wq.heap.size wq).alloc (Nat.le_refl _) _) (by simp) g3 (fun x hx => by cases hx; exact Nat.le_refl _); clear g3 e3; simp only [Nat.zero_add, List.nil_append] at o3)
    | (at_builtin; refine wpList_append_int tyInts rfl (.tmp 82) (.tmp 84) rfl wq.heap.size A3 0 c3 (xs.take 0) rfl (o3.below ((Below.refl _ _).alloc (Nat.le_refl _) _)) w3.heap.size _ rfl (cell_alloc_1 _ _ _) (by omega) (by have := b3.size; simp; omega) ?_; intro A4 c4 w4 o4 g4 e4; have b4 := Below.appended (b3.alloc b3.size _) (by have := b3.size; simp; omega) g4 o3.base_le; clear g4 e4))
  simp only [Nat.reduceAdd] at o4
  generalize xs.take 0 ++ _ = L4 at o4
  go_region_law (refine step_append_ints tyInts rfl (.tmp 86) (.tmp 90) rfl wq.heap.size A4 1 c4 L4 (by simp [Act.eval, Act.put]) (o4.below (Below.refl _ _).drew) (some ⟨b, off + 3, none⟩) 1 (cap - 3) _ (by simp [Act.eval, Act.put]) (Ints.below (Ints.part HXq (i := 3) (m := 1) (by omega) (by omega)) b4.drew) (by omega) b4.size ?_; intro A5 c5 w5 o5 g5 e5; have b5 := Below.appended b4.drew b4.size g5 o4.base_le; clear g5 e5)
  all_goals
    go_wp2_with fail
    go_ret2
    exact ⟨_, _, _, _, rfl, o5.ints, (by first | exact HSZ.out | exact size_part (by omega)), Bq.trans (b5.mono hzq)⟩

set_option maxRecDepth 100000 in
set_option maxHeartbeats 1000000 in
theorem crimp_4_2 (b off cap : Nat) (xs : List Int) (s : ByteArray) (w : World) (h : Ints w (some ⟨b, off, none⟩) 4 cap xs) (hs : s.size = 4) :
    Calls Try.prog 94 #[.slice (some ⟨b, off, none⟩) 4 cap, .string s, .int .i64 2] w (RLTn w 2) := by
  have hle := h.le_cap
  have hmx := h.cap_max
  have hwr := wrap_small
  obtain ⟨b', off', e, hc⟩ := h.cells (by omega)
  cases e
  have h1 := hc 1 (by omega)
  have h2 := hc 3 (by omega)
  have h3 := hc 2 (by omega)
  clear hc
  generalize xs[1]?.getD 0 = X0 at h1
  generalize xs[3]?.getD 0 = X1 at h2
  generalize xs[2]?.getD 0 = X2 at h3
  have HX := Lib.hid h
  clear h
  have hcI : (4 : Int) ≤ (cap : Int) := by omega
  go_enter Try.func94, Try.ntmps94
  go_wp2_with fail
  go_quiet (fail)
  have HXq := HX.out.below (below_drewN (Below.refl _ _) nq)
  have Bq := below_drewN (Below.refl w.heap.size w) nq
  have hzq := Bq.size
  clear h1 h2 h3 HX
  generalize w.drewN nq = wq at HXq Bq hzq ⊢
  have hadd : ∀ W : World, (Op.stringOp .add (s.extract 0 2) (s.extract 4 4)).run Try.prog W = .ok (.string (s.extract 0 2 ++ s.extract 4 4)) W := fun W => run_string_add_sum (P := Try.prog) W _ _ (by rw [size_part (by omega), size_part (by omega)]; omega)
  have hsz : (s.extract 0 2 ++ s.extract 4 4).size = 2 := by rw [ByteArray.size_append, size_part (by omega), size_part (by omega)]
  have HSZ := Lib.hid hsz
  clear hsz
  have hsI : (s.size : Int) = 4 := by omega
  have hcm : (1 : Int) ≤ (cap : Int) := by omega
  have hcn0 : ¬ cap = 0 := by omega
  go_wp2_with (first
    | (at_builtin; refine wpList_append_ints tyInts rfl (.tmp 76) (.tmp 80) rfl wq.heap.size (some ⟨wq.heap.size, 0, none⟩) 0 0 [] rfl (OwnI.lit0 wq (Nat.le_refl _)) (some ⟨b, off, none⟩) 1 cap (xs.take 1) rfl (Ints.below (Ints.head HXq (k := 1) (by omega)) ((Below.refl _ _).alloc (Nat.le_refl _) _)) (by omega) (by simp) ?_; intro A3 c3 w3 o3 g3 e3; have b3 := Below.appended ((Below.refl wq.heap.size wq).alloc (Nat.le_refl _) _) (by simp) g3 (fun x hx => by cases hx; exact Nat.le_refl _); clear g3 e3; simp only [Nat.zero_add, List.nil_append] at o3)
    | (at_builtin; refine wpList_append_int tyInts rfl (.tmp 82) (.tmp 84) rfl wq.heap.size A3 1 c3 (xs.take 1) rfl (o3.below ((Below.refl _ _).alloc (Nat.le_refl _) _)) w3.heap.size _ rfl (cell_alloc_1 _ _ _) (by omega) (by have := b3.size; simp; omega) ?_; intro A4 c4 w4 o4 g4 e4; have b4 := Below.appended (b3.alloc b3.size _) (by have := b3.size; simp; omega) g4 o3.base_le; clear g4 e4))
  simp only [Nat.reduceAdd] at o4
  generalize xs.take 1 ++ _ = L4 at o4
  by_cases hce : cap = 4
  · subst hce
    go_region_law (refine step_append_ints tyInts rfl (.tmp 86) (.tmp 90) rfl wq.heap.size A4 2 c4 L4 (by simp [Act.eval, Act.put]) (o4.below (Below.refl _ _).drew) (some ⟨b, off, none⟩) 0 (0) _ (by simp [Act.eval, Act.put]) (Ints.empty _ _ (by unfold maxLen; omega)) (by omega) b4.size ?_; intro A5 c5 w5 o5 g5 e5; have b5 := Below.appended b4.drew b4.size g5 o4.base_le; clear g5 e5)
    all_goals
      go_wp2_with fail
      go_ret2
      exact ⟨_, _, _, _, rfl, o5.ints, (by first | exact HSZ.out | exact size_part (by omega)), Bq.trans (b5.mono hzq)⟩
  · skip
    go_region_law (refine step_append_ints tyInts rfl (.tmp 86) (.tmp 90) rfl wq.heap.size A4 2 c4 L4 (by simp [Act.eval, Act.put]) (o4.below (Below.refl _ _).drew) (some ⟨b, off + 4, none⟩) 0 (cap - 4) _ (by simp [Act.eval, Act.put]) (Ints.empty _ _ (by unfold maxLen; omega)) (by omega) b4.size ?_; intro A5 c5 w5 o5 g5 e5; have b5 := Below.appended b4.drew b4.size g5 o4.base_le; clear g5 e5)
    all_goals
      go_wp2_with fail
      go_ret2
      exact ⟨_, _, _, _, rfl, o5.ints, (by first | exact HSZ.out | exact size_part (by omega)), Bq.trans (b5.mono hzq)⟩

set_option maxRecDepth 100000 in
set_option maxHeartbeats 1000000 in
theorem crimp_4_3 (b off cap : Nat) (xs : List Int) (s : ByteArray) (w : World) (h : Ints w (some ⟨b, off, none⟩) 4 cap xs) (hs : s.size = 4) :
    Calls Try.prog 94 #[.slice (some ⟨b, off, none⟩) 4 cap, .string s, .int .i64 3] w (RLTn w 2) := by
  have hle := h.le_cap
  have hmx := h.cap_max
  have hwr := wrap_small
  obtain ⟨b', off', e, hc⟩ := h.cells (by omega)
  cases e
  have h1 := hc 2 (by omega)
  have h2 := hc 0 (by omega)
  rw [Nat.add_zero] at h2
  have h3 := hc 3 (by omega)
  clear hc
  generalize xs[2]?.getD 0 = X0 at h1
  generalize xs[0]?.getD 0 = X1 at h2
  generalize xs[3]?.getD 0 = X2 at h3
  have HX := Lib.hid h
  clear h
  have hcI : (4 : Int) ≤ (cap : Int) := by omega
  go_enter Try.func94, Try.ntmps94
  go_wp2_with fail
  go_quiet (fail)
  have HXq := HX.out.below (below_drewN (Below.refl _ _) nq)
  have Bq := below_drewN (Below.refl w.heap.size w) nq
  have hzq := Bq.size
  clear h1 h2 h3 HX
  generalize w.drewN nq = wq at HXq Bq hzq ⊢
  go_wp2_with fail
  have hadd : ∀ W : World, (Op.stringOp .add (s.extract 2 3) (s.extract 1 2)).run Try.prog W = .ok (.string (s.extract 2 3 ++ s.extract 1 2)) W := fun W => run_string_add_sum (P := Try.prog) W _ _ (by rw [size_part (by omega), size_part (by omega)]; omega)
  have hsz : (s.extract 2 3 ++ s.extract 1 2).size = 2 := by rw [ByteArray.size_append, size_part (by omega), size_part (by omega)]
  have HSZ := Lib.hid hsz
  clear hsz
  have hsI : (s.size : Int) = 4 := by omega
  have hcm : (2 : Int) ≤ (cap : Int) := by omega
  have hcne : ¬ cap = 1 := by omega
  go_region_law (refine step_append_ints tyInts rfl (.tmp 59) (.tmp 63) rfl wq.heap.size (some ⟨wq.heap.size, 0, none⟩) 1 1 _ rfl (OwnI.one (heap_alloc_new wq _) (Nat.le_refl _)) (some ⟨b, off + 1, none⟩) 1 (cap - 1) _ rfl (Ints.below (Ints.part HXq (i := 1) (m := 1) (by omega) (by omega)) (((Below.refl _ _).alloc (Nat.le_refl _) _).drew)) (by omega) (by simp) ?_; intro A5 c5 w5 o5 g5 e5; have b5 := Below.appended (((Below.refl wq.heap.size wq).alloc (Nat.le_refl _) _).drew) (by simp) g5 (fun x hx => by cases hx; exact Nat.le_refl _); clear g5 e5)
  all_goals
    go_wp2_with fail
    go_ret2
    exact ⟨_, _, _, _, rfl, o5.ints, (by first | exact HSZ.out | exact size_part (by omega)), Bq.trans (b5.mono hzq)⟩

set_option maxRecDepth 100000 in
set_option maxHeartbeats 1000000 in
theorem crimp_6_0 (b off cap : Nat) (xs : List Int) (s : ByteArray) (w : World) (h : Ints w (some ⟨b, off, none⟩) 6 cap xs) (hs : s.size = 6) :
    Calls Try.prog 94 #[.slice (some ⟨b, off, none⟩) 6 cap, .string s, .int .i64 0] w (RLTn w 4) := by
  have hle := h.le_cap
  have hmx := h.cap_max
  have hwr := wrap_small
  obtain ⟨b', off', e, hc⟩ := h.cells (by omega)
  cases e
  have h1 := hc 5 (by omega)
  have h2 := hc 1 (by omega)
  have h3 := hc 0 (by omega)
  rw [Nat.add_zero] at h3
  clear hc
  generalize xs[5]?.getD 0 = X0 at h1
  generalize xs[1]?.getD 0 = X1 at h2
  generalize xs[0]?.getD 0 = X2 at h3
  have HX := Lib.hid h
  clear h
  have hcI : (6 : Int) ≤ (cap : Int) := by omega
  go_enter Try.func94, Try.ntmps94
  go_wp2_with fail
  go_quiet (fail)
  have HXq := HX.out.below (below_drewN (Below.refl _ _) nq)
  have Bq := below_drewN (Below.refl w.heap.size w) nq
  have hzq := Bq.size
  clear h1 h2 h3 HX
  generalize w.drewN nq = wq at HXq Bq hzq ⊢
  go_wp2_with fail
  have hadd : ∀ W : World, (Op.stringOp .add (s.extract 5 6) (s.extract 2 5)).run Try.prog W = .ok (.string (s.extract 5 6 ++ s.extract 2 5)) W := fun W => run_string_add_sum (P := Try.prog) W _ _ (by rw [size_part (by omega), size_part (by omega)]; omega)
  have hsz : (s.extract 5 6 ++ s.extract 2 5).size = 4 := by rw [ByteArray.size_append, size_part (by omega), size_part (by omega)]
  have HSZ := Lib.hid hsz
  clear hsz
  have hsI : (s.size : Int) = 6 := by omega
  have hcm : (5 : Int) ≤ (cap : Int) := by omega
  have hcne : ¬ cap = 2 := by omega
  go_region_law (refine step_append_ints tyInts rfl (.tmp 39) (.tmp 43) rfl wq.heap.size (some ⟨wq.heap.size, 0, none⟩) 1 1 _ rfl (OwnI.one (heap_alloc_new wq _) (Nat.le_refl _)) (some ⟨b, off + 2, none⟩) 3 (cap - 2) _ rfl (Ints.below (Ints.part HXq (i := 2) (m := 3) (by omega) (by omega)) (((Below.refl _ _).alloc (Nat.le_refl _) _).drew)) (by omega) (by simp) ?_; intro A5 c5 w5 o5 g5 e5; have b5 := Below.appended (((Below.refl wq.heap.size wq).alloc (Nat.le_refl _) _).drew) (by simp) g5 (fun x hx => by cases hx; exact Nat.le_refl _); clear g5 e5)
  all_goals
    go_wp2_with fail
    go_ret2
    exact ⟨_, _, _, _, rfl, o5.ints, (by first | exact HSZ.out | exact size_part (by omega)), Bq.trans (b5.mono hzq)⟩

set_option maxRecDepth 100000 in
set_option maxHeartbeats 1000000 in
theorem crimp_6_1 (b off cap : Nat) (xs : List Int) (s : ByteArray) (w : World) (h : Ints w (some ⟨b, off, none⟩) 6 cap xs) (hs : s.size = 6) :
    Calls Try.prog 94 #[.slice (some ⟨b, off, none⟩) 6 cap, .string s, .int .i64 1] w (RLTn w 4) := by
  have hle := h.le_cap
  have hmx := h.cap_max
  have hwr := wrap_small
  obtain ⟨b', off', e, hc⟩ := h.cells (by omega)
  cases e
  have h1 := hc 0 (by omega)
  rw [Nat.add_zero] at h1
  have h2 := hc 2 (by omega)
  have h3 := hc 1 (by omega)
  clear hc
  generalize xs[0]?.getD 0 = X0 at h1
  generalize xs[2]?.getD 0 = X1 at h2
  generalize xs[1]?.getD 0 = X2 at h3
  have HX := Lib.hid h
  clear h
  have hcI : (6 : Int) ≤ (cap : Int) := by omega
  go_enter Try.func94, Try.ntmps94
  go_wp2_with fail
  go_quiet (fail)
  have HXq := HX.out.below (below_drewN (Below.refl _ _) nq)
  have Bq := below_drewN (Below.refl w.heap.size w) nq
  have hzq := Bq.size
  clear h1 h2 h3 HX
  generalize w.drewN nq = wq at HXq Bq hzq ⊢
  have hadd : ∀ W : World, (Op.stringOp .add (s.extract 0 1) (s.extract 3 6)).run Try.prog W = .ok (.string (s.extract 0 1 ++ s.extract 3 6)) W := fun W => run_string_add_sum (P := Try.prog) W _ _ (by rw [size_part (by omega), size_part (by omega)]; omega)
  have hsz : (s.extract 0 1 ++ s.extract 3 6).size = 4 := by rw [ByteArray.size_append, size_part (by omega), size_part (by omega)]
  have HSZ := Lib.hid hsz
  clear hsz
  have hsI : (s.size : Int) = 6 := by omega
  have hcm : (0 : Int) ≤ (cap : Int) := by omega
  have hcn0 : ¬ cap = 0 := by omega
  have hcne : ¬ cap = 3 := by omega
  go_wp2_with (first
    | (at_builtin; refine wpList_append_ints tyInts rfl (.tmp 76) (.tmp 80) rfl wq.heap.size (some ⟨wq.heap.size, 0, none⟩) 0 0 [] rfl (OwnI.lit0 wq (Nat.le_refl _)) (some ⟨b, off, none⟩) 0 cap (xs.take 0) rfl (Ints.below (Ints.head HXq (k := 0) (by omega)) ((Below.refl _ _).alloc (Nat.le_refl _) _)) (by omega) (by simp) ?_; intro A3 c3 w3 o3 g3 e3; have b3 := Below.appended ((Below.refl wq.heap.size wq).alloc (Nat.le_refl _) _) (by simp) g3 (fun x hx => by cases hx; exact Nat.le_refl _); clear g3 e3; simp only [Nat.zero_add, List.nil_append] at o3)
    | (at_builtin; refine wpList_append_int tyInts rfl (.tmp 82) (.tmp 84) rfl wq.heap.size A3 0 c3 (xs.take 0) rfl (o3.below ((Below.refl _ _).alloc (Nat.le_refl _) _)) w3.heap.size _ rfl (cell_alloc_1 _ _ _) (by omega) (by have := b3.size; simp; omega) ?_; intro A4 c4 w4 o4 g4 e4; have b4 := Below.appended (b3.alloc b3.size _) (by have := b3.size; simp; omega) g4 o3.base_le; clear g4 e4))
  simp only [Nat.reduceAdd] at o4
  generalize xs.take 0 ++ _ = L4 at o4
  go_region_law (refine step_append_ints tyInts rfl (.tmp 86) (.tmp 90) rfl wq.heap.size A4 1 c4 L4 (by simp [Act.eval, Act.put]) (o4.below (Below.refl _ _).drew) (some ⟨b, off + 3, none⟩) 3 (cap - 3) _ (by simp [Act.eval, Act.put]) (Ints.below (Ints.part HXq (i := 3) (m := 3) (by omega) (by omega)) b4.drew) (by omega) b4.size ?_; intro A5 c5 w5 o5 g5 e5; have b5 := Below.appended b4.drew b4.size g5 o4.base_le; clear g5 e5)
  all_goals
    go_wp2_with fail
    go_ret2
    exact ⟨_, _, _, _, rfl, o5.ints, (by first | exact HSZ.out | exact size_part (by omega)), Bq.trans (b5.mono hzq)⟩

set_option maxRecDepth 100000 in
set_option maxHeartbeats 1000000 in
theorem crimp_6_2 (b off cap : Nat) (xs : List Int) (s : ByteArray) (w : World) (h : Ints w (some ⟨b, off, none⟩) 6 cap xs) (hs : s.size = 6) :
    Calls Try.prog 94 #[.slice (some ⟨b, off, none⟩) 6 cap, .string s, .int .i64 2] w (RLTn w 4) := by
  have hle := h.le_cap
  have hmx := h.cap_max
  have hwr := wrap_small
  obtain ⟨b', off', e, hc⟩ := h.cells (by omega)
  cases e
  have h1 := hc 1 (by omega)
  have h2 := hc 3 (by omega)
  have h3 := hc 2 (by omega)
  clear hc
  generalize xs[1]?.getD 0 = X0 at h1
  generalize xs[3]?.getD 0 = X1 at h2
  generalize xs[2]?.getD 0 = X2 at h3
  have HX := Lib.hid h
  clear h
  have hcI : (6 : Int) ≤ (cap : Int) := by omega
  go_enter Try.func94, Try.ntmps94
  go_wp2_with fail
  go_quiet (fail)
  have HXq := HX.out.below (below_drewN (Below.refl _ _) nq)
  have Bq := below_drewN (Below.refl w.heap.size w) nq
  have hzq := Bq.size
  clear h1 h2 h3 HX
  generalize w.drewN nq = wq at HXq Bq hzq ⊢
  have hadd : ∀ W : World, (Op.stringOp .add (s.extract 0 2) (s.extract 4 6)).run Try.prog W = .ok (.string (s.extract 0 2 ++ s.extract 4 6)) W := fun W => run_string_add_sum (P := Try.prog) W _ _ (by rw [size_part (by omega), size_part (by omega)]; omega)
  have hsz : (s.extract 0 2 ++ s.extract 4 6).size = 4 := by rw [ByteArray.size_append, size_part (by omega), size_part (by omega)]
  have HSZ := Lib.hid hsz
  clear hsz
  have hsI : (s.size : Int) = 6 := by omega
  have hcm : (1 : Int) ≤ (cap : Int) := by omega
  have hcn0 : ¬ cap = 0 := by omega
  have hcne : ¬ cap = 4 := by omega
  go_wp2_with (first
    | (at_builtin; refine wpList_append_ints tyInts rfl (.tmp 76) (.tmp 80) rfl wq.heap.size (some ⟨wq.heap.size, 0, none⟩) 0 0 [] rfl (OwnI.lit0 wq (Nat.le_refl _)) (some ⟨b, off, none⟩) 1 cap (xs.take 1) rfl (Ints.below (Ints.head HXq (k := 1) (by omega)) ((Below.refl _ _).alloc (Nat.le_refl _) _)) (by omega) (by simp) ?_; intro A3 c3 w3 o3 g3 e3; have b3 := Below.appended ((Below.refl wq.heap.size wq).alloc (Nat.le_refl _) _) (by simp) g3 (fun x hx => by cases hx; exact Nat.le_refl _); clear g3 e3; simp only [Nat.zero_add, List.nil_append] at o3)
    | (at_builtin; refine wpList_append_int tyInts rfl (.tmp 82) (.tmp 84) rfl wq.heap.size A3 1 c3 (xs.take 1) rfl (o3.below ((Below.refl _ _).alloc (Nat.le_refl _) _)) w3.heap.size _ rfl (cell_alloc_1 _ _ _) (by omega) (by have := b3.size; simp; omega) ?_; intro A4 c4 w4 o4 g4 e4; have b4 := Below.appended (b3.alloc b3.size _) (by have := b3.size; simp; omega) g4 o3.base_le; clear g4 e4))
  simp only [Nat.reduceAdd] at o4
  generalize xs.take 1 ++ _ = L4 at o4
  go_region_law (refine step_append_ints tyInts rfl (.tmp 86) (.tmp 90) rfl wq.heap.size A4 2 c4 L4 (by simp [Act.eval, Act.put]) (o4.below (Below.refl _ _).drew) (some ⟨b, off + 4, none⟩) 2 (cap - 4) _ (by simp [Act.eval, Act.put]) (Ints.below (Ints.part HXq (i := 4) (m := 2) (by omega) (by omega)) b4.drew) (by omega) b4.size ?_; intro A5 c5 w5 o5 g5 e5; have b5 := Below.appended b4.drew b4.size g5 o4.base_le; clear g5 e5)
  all_goals
    go_wp2_with fail
    go_ret2
    exact ⟨_, _, _, _, rfl, o5.ints, (by first | exact HSZ.out | exact size_part (by omega)), Bq.trans (b5.mono hzq)⟩

set_option maxRecDepth 100000 in
set_option maxHeartbeats 1000000 in
theorem crimp_6_3 (b off cap : Nat) (xs : List Int) (s : ByteArray) (w : World) (h : Ints w (some ⟨b, off, none⟩) 6 cap xs) (hs : s.size = 6) :
    Calls Try.prog 94 #[.slice (some ⟨b, off, none⟩) 6 cap, .string s, .int .i64 3] w (RLTn w 4) := by
  have hle := h.le_cap
  have hmx := h.cap_max
  have hwr := wrap_small
  obtain ⟨b', off', e, hc⟩ := h.cells (by omega)
  cases e
  have h1 := hc 2 (by omega)
  have h2 := hc 4 (by omega)
  have h3 := hc 3 (by omega)
  clear hc
  generalize xs[2]?.getD 0 = X0 at h1
  generalize xs[4]?.getD 0 = X1 at h2
  generalize xs[3]?.getD 0 = X2 at h3
  have HX := Lib.hid h
  clear h
  have hcI : (6 : Int) ≤ (cap : Int) := by omega
  go_enter Try.func94, Try.ntmps94
  go_wp2_with fail
  go_quiet (fail)
  have HXq := HX.out.below (below_drewN (Below.refl _ _) nq)
  have Bq := below_drewN (Below.refl w.heap.size w) nq
  have hzq := Bq.size
  clear h1 h2 h3 HX
  generalize w.drewN nq = wq at HXq Bq hzq ⊢
  have hadd : ∀ W : World, (Op.stringOp .add (s.extract 0 3) (s.extract 5 6)).run Try.prog W = .ok (.string (s.extract 0 3 ++ s.extract 5 6)) W := fun W => run_string_add_sum (P := Try.prog) W _ _ (by rw [size_part (by omega), size_part (by omega)]; omega)
  have hsz : (s.extract 0 3 ++ s.extract 5 6).size = 4 := by rw [ByteArray.size_append, size_part (by omega), size_part (by omega)]
  have HSZ := Lib.hid hsz
  clear hsz
  have hsI : (s.size : Int) = 6 := by omega
  have hcm : (2 : Int) ≤ (cap : Int) := by omega
  have hcn0 : ¬ cap = 0 := by omega
  have hcne : ¬ cap = 5 := by omega
  go_wp2_with (first
    | (at_builtin; refine wpList_append_ints tyInts rfl (.tmp 76) (.tmp 80) rfl wq.heap.size (some ⟨wq.heap.size, 0, none⟩) 0 0 [] rfl (OwnI.lit0 wq (Nat.le_refl _)) (some ⟨b, off, none⟩) 2 cap (xs.take 2) rfl (Ints.below (Ints.head HXq (k := 2) (by omega)) ((Below.refl _ _).alloc (Nat.le_refl _) _)) (by omega) (by simp) ?_; intro A3 c3 w3 o3 g3 e3; have b3 := Below.appended ((Below.refl wq.heap.size wq).alloc (Nat.le_refl _) _) (by simp) g3 (fun x hx => by cases hx; exact Nat.le_refl _); clear g3 e3; simp only [Nat.zero_add, List.nil_append] at o3)
    | (at_builtin; refine wpList_append_int tyInts rfl (.tmp 82) (.tmp 84) rfl wq.heap.size A3 2 c3 (xs.take 2) rfl (o3.below ((Below.refl _ _).alloc (Nat.le_refl _) _)) w3.heap.size _ rfl (cell_alloc_1 _ _ _) (by omega) (by have := b3.size; simp; omega) ?_; intro A4 c4 w4 o4 g4 e4; have b4 := Below.appended (b3.alloc b3.size _) (by have := b3.size; simp; omega) g4 o3.base_le; clear g4 e4))
  simp only [Nat.reduceAdd] at o4
  generalize xs.take 2 ++ _ = L4 at o4
  go_region_law (refine step_append_ints tyInts rfl (.tmp 86) (.tmp 90) rfl wq.heap.size A4 3 c4 L4 (by simp [Act.eval, Act.put]) (o4.below (Below.refl _ _).drew) (some ⟨b, off + 5, none⟩) 1 (cap - 5) _ (by simp [Act.eval, Act.put]) (Ints.below (Ints.part HXq (i := 5) (m := 1) (by omega) (by omega)) b4.drew) (by omega) b4.size ?_; intro A5 c5 w5 o5 g5 e5; have b5 := Below.appended b4.drew b4.size g5 o4.base_le; clear g5 e5)
  all_goals
    go_wp2_with fail
    go_ret2
    exact ⟨_, _, _, _, rfl, o5.ints, (by first | exact HSZ.out | exact size_part (by omega)), Bq.trans (b5.mono hzq)⟩

set_option maxRecDepth 100000 in
set_option maxHeartbeats 1000000 in
theorem crimp_6_4 (b off cap : Nat) (xs : List Int) (s : ByteArray) (w : World) (h : Ints w (some ⟨b, off, none⟩) 6 cap xs) (hs : s.size = 6) :
    Calls Try.prog 94 #[.slice (some ⟨b, off, none⟩) 6 cap, .string s, .int .i64 4] w (RLTn w 4) := by
  have hle := h.le_cap
  have hmx := h.cap_max
  have hwr := wrap_small
  obtain ⟨b', off', e, hc⟩ := h.cells (by omega)
  cases e
  have h1 := hc 3 (by omega)
  have h2 := hc 5 (by omega)
  have h3 := hc 4 (by omega)
  clear hc
  generalize xs[3]?.getD 0 = X0 at h1
  generalize xs[5]?.getD 0 = X1 at h2
  generalize xs[4]?.getD 0 = X2 at h3
  have HX := Lib.hid h
  clear h
  have hcI : (6 : Int) ≤ (cap : Int) := by omega
  go_enter Try.func94, Try.ntmps94
  go_wp2_with fail
  go_quiet (fail)
  have HXq := HX.out.below (below_drewN (Below.refl _ _) nq)
  have Bq := below_drewN (Below.refl w.heap.size w) nq
  have hzq := Bq.size
  clear h1 h2 h3 HX
  generalize w.drewN nq = wq at HXq Bq hzq ⊢
  have hadd : ∀ W : World, (Op.stringOp .add (s.extract 0 4) (s.extract 6 6)).run Try.prog W = .ok (.string (s.extract 0 4 ++ s.extract 6 6)) W := fun W => run_string_add_sum (P := Try.prog) W _ _ (by rw [size_part (by omega), size_part (by omega)]; omega)
  have hsz : (s.extract 0 4 ++ s.extract 6 6).size = 4 := by rw [ByteArray.size_append, size_part (by omega), size_part (by omega)]
  have HSZ := Lib.hid hsz
  clear hsz
  have hsI : (s.size : Int) = 6 := by omega
  have hcm : (3 : Int) ≤ (cap : Int) := by omega
  have hcn0 : ¬ cap = 0 := by omega
  go_wp2_with (first
    | (at_builtin; refine wpList_append_ints tyInts rfl (.tmp 76) (.tmp 80) rfl wq.heap.size (some ⟨wq.heap.size, 0, none⟩) 0 0 [] rfl (OwnI.lit0 wq (Nat.le_refl _)) (some ⟨b, off, none⟩) 3 cap (xs.take 3) rfl (Ints.below (Ints.head HXq (k := 3) (by omega)) ((Below.refl _ _).alloc (Nat.le_refl _) _)) (by omega) (by simp) ?_; intro A3 c3 w3 o3 g3 e3; have b3 := Below.appended ((Below.refl wq.heap.size wq).alloc (Nat.le_refl _) _) (by simp) g3 (fun x hx => by cases hx; exact Nat.le_refl _); clear g3 e3; simp only [Nat.zero_add, List.nil_append] at o3)
    | (at_builtin; refine wpList_append_int tyInts rfl (.tmp 82) (.tmp 84) rfl wq.heap.size A3 3 c3 (xs.take 3) rfl (o3.below ((Below.refl _ _).alloc (Nat.le_refl _) _)) w3.heap.size _ rfl (cell_alloc_1 _ _ _) (by omega) (by have := b3.size; simp; omega) ?_; intro A4 c4 w4 o4 g4 e4; have b4 := Below.appended (b3.alloc b3.size _) (by have := b3.size; simp; omega) g4 o3.base_le; clear g4 e4))
  simp only [Nat.reduceAdd] at o4
  generalize xs.take 3 ++ _ = L4 at o4
  by_cases hce : cap = 6
  · subst hce
    go_region_law (refine step_append_ints tyInts rfl (.tmp 86) (.tmp 90) rfl wq.heap.size A4 4 c4 L4 (by simp [Act.eval, Act.put]) (o4.below (Below.refl _ _).drew) (some ⟨b, off, none⟩) 0 (0) _ (by simp [Act.eval, Act.put]) (Ints.empty _ _ (by unfold maxLen; omega)) (by omega) b4.size ?_; intro A5 c5 w5 o5 g5 e5; have b5 := Below.appended b4.drew b4.size g5 o4.base_le; clear g5 e5)
    all_goals
      go_wp2_with fail
      go_ret2
      exact ⟨_, _, _, _, rfl, o5.ints, (by first | exact HSZ.out | exact size_part (by omega)), Bq.trans (b5.mono hzq)⟩
  · skip
    go_region_law (refine step_append_ints tyInts rfl (.tmp 86) (.tmp 90) rfl wq.heap.size A4 4 c4 L4 (by simp [Act.eval, Act.put]) (o4.below (Below.refl _ _).drew) (some ⟨b, off + 6, none⟩) 0 (cap - 6) _ (by simp [Act.eval, Act.put]) (Ints.empty _ _ (by unfold maxLen; omega)) (by omega) b4.size ?_; intro A5 c5 w5 o5 g5 e5; have b5 := Below.appended b4.drew b4.size g5 o4.base_le; clear g5 e5)
    all_goals
      go_wp2_with fail
      go_ret2
      exact ⟨_, _, _, _, rfl, o5.ints, (by first | exact HSZ.out | exact size_part (by omega)), Bq.trans (b5.mono hzq)⟩

set_option maxRecDepth 100000 in
set_option maxHeartbeats 1000000 in
theorem crimp_6_5 (b off cap : Nat) (xs : List Int) (s : ByteArray) (w : World) (h : Ints w (some ⟨b, off, none⟩) 6 cap xs) (hs : s.size = 6) :
    Calls Try.prog 94 #[.slice (some ⟨b, off, none⟩) 6 cap, .string s, .int .i64 5] w (RLTn w 4) := by
  have hle := h.le_cap
  have hmx := h.cap_max
  have hwr := wrap_small
  obtain ⟨b', off', e, hc⟩ := h.cells (by omega)
  cases e
  have h1 := hc 4 (by omega)
  have h2 := hc 0 (by omega)
  rw [Nat.add_zero] at h2
  have h3 := hc 5 (by omega)
  clear hc
  generalize xs[4]?.getD 0 = X0 at h1
  generalize xs[0]?.getD 0 = X1 at h2
  generalize xs[5]?.getD 0 = X2 at h3
  have HX := Lib.hid h
  clear h
  have hcI : (6 : Int) ≤ (cap : Int) := by omega
  go_enter Try.func94, Try.ntmps94
  go_wp2_with fail
  go_quiet (fail)
  have HXq := HX.out.below (below_drewN (Below.refl _ _) nq)
  have Bq := below_drewN (Below.refl w.heap.size w) nq
  have hzq := Bq.size
  clear h1 h2 h3 HX
  generalize w.drewN nq = wq at HXq Bq hzq ⊢
  go_wp2_with fail
  have hadd : ∀ W : World, (Op.stringOp .add (s.extract 4 5) (s.extract 1 4)).run Try.prog W = .ok (.string (s.extract 4 5 ++ s.extract 1 4)) W := fun W => run_string_add_sum (P := Try.prog) W _ _ (by rw [size_part (by omega), size_part (by omega)]; omega)
  have hsz : (s.extract 4 5 ++ s.extract 1 4).size = 4 := by rw [ByteArray.size_append, size_part (by omega), size_part (by omega)]
  have HSZ := Lib.hid hsz
  clear hsz
  have hsI : (s.size : Int) = 6 := by omega
  have hcm : (4 : Int) ≤ (cap : Int) := by omega
  have hcne : ¬ cap = 1 := by omega
  go_region_law (refine step_append_ints tyInts rfl (.tmp 59) (.tmp 63) rfl wq.heap.size (some ⟨wq.heap.size, 0, none⟩) 1 1 _ rfl (OwnI.one (heap_alloc_new wq _) (Nat.le_refl _)) (some ⟨b, off + 1, none⟩) 3 (cap - 1) _ rfl (Ints.below (Ints.part HXq (i := 1) (m := 3) (by omega) (by omega)) (((Below.refl _ _).alloc (Nat.le_refl _) _).drew)) (by omega) (by simp) ?_; intro A5 c5 w5 o5 g5 e5; have b5 := Below.appended (((Below.refl wq.heap.size wq).alloc (Nat.le_refl _) _).drew) (by simp) g5 (fun x hx => by cases hx; exact Nat.le_refl _); clear g5 e5)
  all_goals
    go_wp2_with fail
    go_ret2
    exact ⟨_, _, _, _, rfl, o5.ints, (by first | exact HSZ.out | exact size_part (by omega)), Bq.trans (b5.mono hzq)⟩

end Go.Proofs.Yteigbpmfjiofiaa
