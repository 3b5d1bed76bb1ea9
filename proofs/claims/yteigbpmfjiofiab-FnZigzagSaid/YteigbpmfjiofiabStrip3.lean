/-
  What StripWide, l2Text and StripBack compute, in the reference and in the program, by a walk through each.
-/
import Derived.Test.YteigbpmfjiofiabStrip2
import Derived.Test.YteigbpmfjiofiabBack
import Derived.Test.YteigbpmfjiofiabBytes
import Derived.RegionTactic
namespace Go.Proofs.Yteigbpmfjiofiab
open Go.RowKit

theorem go_min (x y : Int) : (if y < x then y else x) = min x y := by omega
theorem go_max (x y : Int) : (if x < y then y else x) = max x y := by omega
theorem least_step {ys : List Int} {s : Int} {k n : Nat} (h : ys.length = n) (hlt : k < n) : leastTo s (ys.take (k + 1)) = min (leastTo s (ys.take k)) (ys[k]?.getD 0) := by
  rw [take_snocI ys k (by omega), leastTo_snoc]
theorem most_step {ys : List Int} {s : Int} {k n : Nat} (h : ys.length = n) (hlt : k < n) : mostTo s (ys.take (k + 1)) = max (mostTo s (ys.take k)) (ys[k]?.getD 0) := by
  rw [take_snocI ys k (by omega), mostTo_snoc]
theorem wide_bd {xs : List Int} (h : lengthsB xs = true) (k : Nat) : (-6000 ≤ leastTo 0 ((placesL xs).take k) ∧ leastTo 0 ((placesL xs).take k) ≤ 6000) ∧ (-6000 ≤ mostTo 0 ((placesL xs).take k) ∧ mostTo 0 ((placesL xs).take k) ≤ 6000) :=
  ⟨leastTo_bd _ _ (by omega) fun x hx => placesL_bd h x (List.mem_of_mem_take hx), mostTo_bd _ _ (by omega) fun x hx => placesL_bd h x (List.mem_of_mem_take hx)⟩

end Go.Proofs.Yteigbpmfjiofiab
