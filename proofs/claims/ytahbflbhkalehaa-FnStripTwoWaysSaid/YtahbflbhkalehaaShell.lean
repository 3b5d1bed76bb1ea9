/-
  A slice of integers that came in, read as a list: what each law's last step asks.
-/
import Derived.Test.YtahbflbhkalehaaMem
import Derived.ProofKit
import Derived.OpenShut
import Derived.ShutString
import Derived.ChangeOld
namespace Go.Proofs.Ytahbflbhkalehaa
open Go.RowKit

/-- The slice value reads as a list of bytes. -/
def Bytes (w : World) (a : Option Addr) (n cap : Nat) (bs : List Int) : Prop := Cells w 1 a n cap (bs.map (Value.int .u8)) ∧ ∀ b ∈ bs, 0 ≤ b ∧ b ≤ 255

theorem cells_of_open {k : IntKind} {w : World} {x : Addr} {len cap : Nat} {zs : List Int} (hl : len ≤ cap) (hm : cap ≤ maxLen) (hz : zs.length = cap)
    (hcell : ∀ i, i < zs.length → w.cell? (x.add i) = some (.int k (zs.getD i 0))) : Cells w 1 (some x) len cap ((zs.take len).map (Value.int k)) := by
  refine ⟨by simp; omega, hl, hm, fun hn => ?_⟩
  obtain ⟨b, off, spot⟩ := x
  have h0 := hcell 0 (by omega)
  have hspot : spot = none := by simpa [Addr.add] using World.cell?_spot h0
  subst hspot
  refine ⟨b, off, rfl, fun j u hu => ?_⟩
  have hj : j < len := by
    have := (List.getElem?_eq_some_iff.1 hu).1
    simp at this
    omega
  rw [List.getElem?_map, List.getElem?_take, if_pos hj, List.getElem?_eq_getElem (by omega)] at hu
  have hc := hcell j (by omega)
  have e : (⟨b, off, none⟩ : Addr).add j = ⟨b, off + j, none⟩ := by
    unfold Addr.add
    by_cases h : j = 0
    · subst h; simp
    · rw [if_neg h]
  rw [e] at hc
  rw [hc, ← hu]
  simp only [List.getD_eq_getElem?_getD, Option.map_some]
  rw [List.getElem?_eq_getElem (by omega)]
  rfl

theorem ints_of_open {w : World} {x : Addr} {len cap : Nat} {zs : List Int} (hl : len ≤ cap) (hm : cap ≤ maxLen) (hz : zs.length = cap)
    (hcell : ∀ i, i < zs.length → w.cell? (x.add i) = some (.int .i64 (zs.getD i 0))) : Ints w (some x) len cap (zs.take len) := cells_of_open hl hm hz hcell

theorem bytes_of_open {w : World} {x : Addr} {len cap : Nat} {zs : List Int} (hl : len ≤ cap) (hm : cap ≤ maxLen) (hz : zs.length = cap)
    (hcell : ∀ i, i < zs.length → w.cell? (x.add i) = some (.int .u8 (zs.getD i 0))) (hw : ∀ n ∈ zs, (Lit.int .u8 n).wf = true) : Bytes w (some x) len cap (zs.take len) :=
  ⟨cells_of_open hl hm hz hcell, fun b hb => by
    have := bounds_u8 (hw b (List.mem_of_mem_take hb))
    omega⟩
theorem bytes_empty (w : World) (a : Option Addr) {cap : Nat} (h : cap ≤ maxLen) : Bytes w a 0 cap [] := ⟨⟨by simp, Nat.zero_le _, h, fun h => absurd h (by omega)⟩, fun b hb => by cases hb⟩

end Go.Proofs.Ytahbflbhkalehaa
