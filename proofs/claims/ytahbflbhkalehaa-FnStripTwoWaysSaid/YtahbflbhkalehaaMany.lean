/-
  What the program's count and firstLayers of parts laid flat compute.
-/
import Derived.Test.YtahbflbhkalehaaEach
import Derived.Test.YtahbflbhkalehaaFlat
import Derived.BigQuiet
namespace Go.Proofs.Ytahbflbhkalehaa
open Go.RowKit

theorem tyBools : ElemTy Try.prog 70 4 1 1 (.bool false) :=
  ⟨Try.underlying70, info_parts (by kernel_rfl), rfl, by omega⟩

/-- make([]bool, n). -/
theorem wpList_make_bools {P : Program} {t : TypeId} (T : ElemTy P t 4 1 1 (.bool false)) {w : World} {ops : Array Oper} {rest : List Oper} {o : Oper} {a : Act} {Q : Exit → Act → World → Prop}
    (hg : o.guard = none) (l c : Operand) (hop : o.op = Op.makeSlice t l c) (base : Nat) (L C : Int) (n : Nat) (hl : a.eval l = .int .i64 L) (hc : a.eval c = .int .i64 C) (hL : L = (n : Int)) (hC : C = (n : Int))
    (b2 : n ≤ 2000000) (b4 : base ≤ w.heap.size)
    (hK : ∀ w', Own w' base 4 1 (some ⟨w.heap.size, 0, none⟩) n n (List.replicate n (.bool false)) → w.grownBy w' none → wpList P ops Q rest (a.put o.dst (.slice (some ⟨w.heap.size, 0, none⟩) n n)) w') :
    wpList P ops Q (o :: rest) a w := by
  refine wpList_make T hg l c hop base L C n hl hc hL hC (by omega) (by unfold maxLen; omega) b4 fun w' h1 h2 => hK w' ?_ h2
  have h3 := h1
  rw [show (Value.bool false).cells = #[Value.bool false] from rfl, Nat.mul_one, toList_madeCells_one] at h3
  exact h3

/-! The visitors. -/
theorem impl_count1 (v : Value) (Bm : Nat) (c : Int) (W : World) (cm : W.cell? ⟨Bm, 0, none⟩ = some (.int .i64 c)) (fm : W.frozen? ⟨Bm, 0, none⟩ = false) :
    Calls Try.prog 27 #[v, .pointer (some ⟨Bm, 0, none⟩)] W fun e w' => e = .returned (.bool true) ∧ W.setCell ⟨Bm, 0, none⟩ (.int .i64 (wrap64 (c + 1))) = w' := by
  go_enter Try.func27, Try.ntmps27
  go_wp2
  go_ret
  exact ⟨rfl, rfl⟩

/-- What a visit of the counter is. -/
def gC (xs : List Int) (F : List Fd) (c : Int) (ys : List Int) : Int × Bool := (if rightB xs F ys = true then wrap64 (c + 1) else c, true)
/-- What a visit of the finder is. -/
def gF (xs : List Int) (F : List Fd) (o : Option (List Int)) (ys : List Int) : Option (List Int) × Bool := if rightB xs F ys = true then (some ys, false) else (o, true)

theorem runV_count (xs : List Int) (F : List Fd) : ∀ (l : List (List Int)) (c : Int), 0 ≤ c → c + l.length ≤ 1000000 → runV (gC xs F) c l = (c + ((l.filter (rightB xs F)).length : Int), true) := by
  intro l
  induction l with
  | nil => intro c _ _; rw [List.filter_nil]; simp [runV]
  | cons x r ih =>
    intro c h0 hc
    rw [List.length_cons] at hc
    rw [runV_cons]
    unfold gC
    rw [if_pos rfl]
    change runV (gC xs F) (if rightB xs F x = true then wrap64 (c + 1) else c) r = _
    by_cases h : rightB xs F x = true
    · rw [if_pos h, List.filter_cons_of_pos h, IntWalk.wrap64_in _ (by omega), ih (c + 1) (by omega) (by omega), List.length_cons]
      congr 1
      omega
    · rw [if_neg h, List.filter_cons_of_neg h, ih c h0 (by omega)]
theorem runV_first (xs : List Int) (F : List Fd) : ∀ (l : List (List Int)), runV (gF xs F) none l = ((l.filter (rightB xs F)).head?, !((l.filter (rightB xs F)).head?).isSome) := by
  intro l
  induction l with
  | nil => rfl
  | cons x r ih =>
    rw [runV_cons]
    unfold gF
    by_cases h : rightB xs F x = true
    · rw [if_pos h, if_neg (by simp), List.filter_cons_of_pos h]
      rfl
    · rw [if_neg h, if_pos rfl, List.filter_cons_of_neg h]
      exact ih

set_option maxHeartbeats 1000000 in
theorem each1_count (g n : Nat) (xs : List Int) (F : List Fd) (hl : xs.length = n) (hn : n ≤ 6) (hF : parF n F) (hap : apartF n F) (hFl : F.length ≤ 6) (Bf Bv Bm : Nat) (A : Option Addr) (m cap : Nat) (ys : List Int) (W : World) (hW : FlatAt W g n xs F)
    (hi : Ints W A m cap ys) (hm : m ≤ 1048576) (cf : W.cell? ⟨Bf, 0, none⟩ = some (.pointer (some ⟨g, 0, none⟩))) (cv : W.cell? ⟨Bv, 0, none⟩ = some (.func (.func 27) #[] #[.pointer (some ⟨Bm, 0, none⟩)]))
    (c : Int) (cm : W.cell? ⟨Bm, 0, none⟩ = some (.int .i64 c)) (fm : W.frozen? ⟨Bm, 0, none⟩ = false) :
    Calls Try.prog 43 #[.slice A m cap, .pointer (some ⟨Bf, 0, none⟩), .pointer (some ⟨Bv, 0, none⟩)] W fun e w' => e = .returned (.bool (gC xs F c ys).2) ∧ (w'.cell? ⟨Bm, 0, none⟩ = some (.int .i64 (gC xs F c ys).1) ∧ w'.frozen? ⟨Bm, 0, none⟩ = false) ∧ KB (fun k => k = Bm) W w' := by
  have P1 := impl_right g n xs F A m cap ys W hW hl hn hF hap hFl hi hm
  cases hr : rightB xs F ys with
  | false =>
    rw [hr] at P1
    have P1 := Lib.hid P1
    have HE : Hid (gC xs F c ys = (c, true)) := by unfold Hid gC; rw [hr]; rfl
    clear hr
    go_enter Try.func43, Try.ntmps43
    go_wp2_with (go_at_call 19; refine P1.out.mono ?_; rintro e w1 ⟨rfl, b1⟩)
    go_ret
    rw [HE.out]
    exact ⟨rfl, ⟨cell_below b1 cm, (World.frozen?_of_block (a := ⟨Bm, 0, none⟩) (b1.block Bm (World.block_lt_of_cell? _ _ cm))).trans fm⟩, KB.of_below b1⟩
  | true =>
    rw [hr] at P1
    have P1 := Lib.hid P1
    have HE : Hid (gC xs F c ys = (wrap64 (c + 1), true)) := by unfold Hid gC; rw [hr]; rfl
    clear hr
    go_enter Try.func43, Try.ntmps43
    go_wp2_with (first
      | (go_at_call 19; refine P1.out.mono ?_; rintro e w1 ⟨rfl, b1⟩; have cv1 := cell_below b1 cv; have cm1 := cell_below b1 cm; have fm1 := (World.frozen?_of_block (a := ⟨Bm, 0, none⟩) (b1.block Bm (World.block_lt_of_cell? _ _ cm))).trans fm)
      | (go_at_call 27; refine (impl_count1 _ Bm c w1 cm1 fm1).mono ?_; rintro e w2 ⟨rfl, rfl⟩))
    go_ret
    rw [HE.out]
    exact ⟨rfl, ⟨World.cell?_setCell_same' _ _ _ (by rw [cm1]; rfl), by rw [World.frozen?_setCell]; exact fm1⟩, (KB.of_below b1).trans (kb_set w1 rfl)⟩

/-- What the finder keeps: the layers found, in memory of the call's own, and whether there are any. -/
structure InvF (base Bs Bb q q4 : Nat) (o : Option (List Int)) (W : World) : Prop where
  has : ∃ A m c, W.cell? ⟨Bs, 0, none⟩ = some (.slice A m c) ∧ OwnI W base A m c (o.getD []) ∧ (∀ x, A = some x → x.block < q ∨ q4 ≤ x.block) ∧ (o = none → ∃ g0, A = some ⟨g0, 0, none⟩ ∧ m = 0 ∧ c = 0 ∧ base ≤ g0 ∧ g0 < q ∧ g0 ≠ Bs ∧ g0 ≠ Bb)
  found : W.cell? ⟨Bb, 0, none⟩ = some (.bool o.isSome)
  fs : W.frozen? ⟨Bs, 0, none⟩ = false
  fb : W.frozen? ⟨Bb, 0, none⟩ = false
theorem OwnI.blk {w w' : World} {base : Nat} {a : Option Addr} {n cap : Nat} {xs : List Int} (h : OwnI w base a n cap xs) (hb : ∀ x, a = some x → w'.heap[x.block]? = w.heap[x.block]?) : OwnI w' base a n cap xs := by
  refine ⟨h.1, ?_⟩
  rcases h.2 with h2 | ⟨g, c, cur, hv, hg, hh, r⟩
  · exact .inl h2
  · injection hv with e1 e2 e3
    exact .inr ⟨g, c, cur, by rw [e1, e3], hg, (hb ⟨g, 0, none⟩ e1).trans hh, r⟩
theorem InvF.kb {base Bs Bb q q4 : Nat} {o : Option (List Int)} {W W' : World} {M : Nat → Prop} (h : InvF base Bs Bb q q4 o W) (hs : ¬ M Bs) (hb : ¬ M Bb) (hq : ∀ k, M k → q ≤ k ∧ k < q4) (k : KB M W W') : InvF base Bs Bb q q4 o W' := by
  obtain ⟨A, m, c, h1, h2, h3, h4⟩ := h.has
  refine ⟨⟨A, m, c, k.cell h1 hs, h2.blk (fun x hx => k.block x.block (h2.lt x hx) fun hM => ?_), h3, h4⟩, k.cell h.found hb, ?_, ?_⟩
  · have := hq _ hM
    rcases h3 x hx with h | h <;> omega
  · rw [World.frozen?_of_block (a := ⟨Bs, 0, none⟩) (k.block Bs (World.block_lt_of_cell? _ _ h1) hs)]; exact h.fs
  · rw [World.frozen?_of_block (a := ⟨Bb, 0, none⟩) (k.block Bb (World.block_lt_of_cell? _ _ h.found) hb)]; exact h.fb

set_option maxHeartbeats 1000000 in
theorem impl_first1 (base Bs Bb q q4 : Nat) (hsb : Bs ≠ Bb) (A : Option Addr) (m cap : Nat) (ys : List Int) (W : World) (hI : InvF base Bs Bb q q4 none W) (hi : Ints W A m cap ys) (hm : m ≤ 1048576) (hbase : base ≤ W.heap.size) (hq : q4 ≤ W.heap.size) (hbs : base ≤ Bs) (hbb : base ≤ Bb) (hbsq : Bs < q) (hbbq : Bb < q) :
    Calls Try.prog 32 #[.slice A m cap, .pointer (some ⟨Bs, 0, none⟩), .pointer (some ⟨Bb, 0, none⟩)] W fun e w' => e = .returned (.bool false) ∧ InvF base Bs Bb q q4 (some ys) w' ∧ KB (fun k => base ≤ k ∧ k < q) W w' := by
  obtain ⟨A0, m0, c0, h1, h2, h3, h4⟩ := hI.has
  obtain ⟨g0, rfl, rfl, rfl, hg0, hgq, hgs, hgb⟩ := h4 rfl
  have hfs := hI.fs
  have hfb := hI.fb
  have hcb := hI.found
  have hls := World.block_lt_of_cell? _ _ h1
  have hlb := World.block_lt_of_cell? _ _ hcb
  clear h3 h4
  go_enter Try.func32, Try.ntmps32
  go_wp2_with (at_builtin; refine wpList_append_ints tyInts rfl (.tmp 5) (.tmp 6) rfl base _ 0 0 [] rfl h2 A m cap ys rfl hi (by omega) hbase ?_; intro A1 c1 w1 o1 g1 e1; have h1' := g1.cell h1 (by intro e; injection e with e; exact hgs e.symm); have hcb' := g1.cell hcb (by intro e; injection e with e; exact hgb e.symm); have hfs' := (World.frozen?_of_block (a := ⟨Bs, 0, none⟩) (g1.block Bs hls (by intro e; injection e with e; exact hgs e.symm))).trans hfs; have hfb' := (World.frozen?_of_block (a := ⟨Bb, 0, none⟩) (g1.block Bb hlb (by intro e; injection e with e; exact hgb e.symm))).trans hfb)
  simp only [Nat.zero_add, List.nil_append] at o1
  have hA1 : ∀ x, A1 = some x → x.block = g0 ∨ x.block = W.heap.size := fun x hx => by
    rcases e1 with e | e
    · rw [e] at hx; cases hx; exact .inl rfl
    · rw [e] at hx; cases hx; exact .inr rfl
  have kk : KB (fun k => base ≤ k ∧ k < q) w1 ((w1.setCell ⟨Bs, 0, none⟩ (.slice A1 m c1)).setCell ⟨Bb, 0, none⟩ (.bool true)) := (kb_set w1 ⟨hbs, hbsq⟩).trans (kb_set _ ⟨hbb, hbbq⟩)
  have k1 : KB (fun k => base ≤ k ∧ k < q) W w1 := ⟨g1.1, g1.2, g1.3, g1.4, fun k hk hn => g1.5 k hk (by intro e; injection e with e; exact hn ⟨by rw [e]; exact hg0, by rw [e]; exact hgq⟩)⟩
  go_ret
  refine ⟨rfl, ⟨⟨A1, m, c1, ?_, ?_, ?_, fun h => by cases h⟩, ?_, ?_, ?_⟩, k1.trans kk⟩
  · rw [World.cell?_setCell_other _ _ _ _ (by intro e; injection e with e _ _; first | exact hsb e | exact hsb e.symm), World.cell?_setCell_same' _ _ _ (by rw [h1']; rfl)]
  · exact (o1.put_other _ (fun x hx e => by rcases hA1 x hx with h | h <;> omega)).put_other _ (fun x hx e => by rcases hA1 x hx with h | h <;> omega)
  · intro x hx
    rcases hA1 x hx with h | h <;> omega
  · rw [World.cell?_setCell_same' _ _ _ (by rw [World.cell?_setCell_other _ _ _ _ (by intro e; injection e with e _ _; first | exact hsb e | exact hsb e.symm), hcb']; rfl)]
    rfl
  · rw [World.frozen?_setCell, World.frozen?_setCell]; exact hfs'
  · rw [World.frozen?_setCell, World.frozen?_setCell]; exact hfb'

set_option maxHeartbeats 1000000 in
theorem each1_first (g n : Nat) (xs : List Int) (F : List Fd) (hl : xs.length = n) (hn : n ≤ 6) (hF : parF n F) (hap : apartF n F) (hFl : F.length ≤ 6) (Bf Bv base Bs Bb q q4 : Nat) (hsb : Bs ≠ Bb) (A : Option Addr) (m cap : Nat) (ys : List Int) (W : World) (hW : FlatAt W g n xs F)
    (hi : Ints W A m cap ys) (hm : m ≤ 1048576) (cf : W.cell? ⟨Bf, 0, none⟩ = some (.pointer (some ⟨g, 0, none⟩))) (cv : W.cell? ⟨Bv, 0, none⟩ = some (.func (.func 32) #[] #[.pointer (some ⟨Bs, 0, none⟩), .pointer (some ⟨Bb, 0, none⟩)]))
    (hI : InvF base Bs Bb q q4 none W) (hbase : base ≤ W.heap.size) (hq : q4 ≤ W.heap.size) (hbs : base ≤ Bs) (hbb : base ≤ Bb) (hbsq : Bs < q) (hbbq : Bb < q) :
    Calls Try.prog 43 #[.slice A m cap, .pointer (some ⟨Bf, 0, none⟩), .pointer (some ⟨Bv, 0, none⟩)] W fun e w' => e = .returned (.bool (gF xs F none ys).2) ∧ InvF base Bs Bb q q4 (gF xs F none ys).1 w' ∧ KB (fun k => base ≤ k ∧ k < q) W w' := by
  have P1 := impl_right g n xs F A m cap ys W hW hl hn hF hap hFl hi hm
  cases hr : rightB xs F ys with
  | false =>
    rw [hr] at P1
    have P1 := Lib.hid P1
    have HE : Hid (gF xs F none ys = (none, true)) := by unfold Hid gF; rw [hr]; rfl
    clear hr
    go_enter Try.func43, Try.ntmps43
    go_wp2_with (go_at_call 19; refine P1.out.mono ?_; rintro e w1 ⟨rfl, b1⟩)
    go_ret
    rw [HE.out]
    exact ⟨rfl, hI.kb (M := fun _ => False) (fun h => h) (fun h => h) (fun _ h => h.elim) (KB.of_below b1), KB.of_below b1⟩
  | true =>
    rw [hr] at P1
    have P1 := Lib.hid P1
    have HE : Hid (gF xs F none ys = (some ys, false)) := by unfold Hid gF; rw [hr]; rfl
    clear hr
    go_enter Try.func43, Try.ntmps43
    go_wp2_with (first
      | (go_at_call 19; refine P1.out.mono ?_; rintro e w1 ⟨rfl, b1⟩; have cv1 := cell_below b1 cv; have I1 := hI.kb (M := fun _ => False) (fun h => h) (fun h => h) (fun _ h => h.elim) (KB.of_below b1); have z1 := b1.size; have i1 := hi.below b1)
      | (go_at_call 32; refine (impl_first1 base Bs Bb q q4 hsb A m cap ys w1 I1 i1 hm (by omega) (by omega) hbs hbb hbsq hbbq).mono ?_; rintro e w2 ⟨rfl, I2, k2⟩))
    go_ret
    rw [HE.out]
    exact ⟨rfl, I2, (KB.of_below b1).trans k2⟩

theorem Ord.new {w : World} {base Bo n : Nat} (h : OwnI w base (some ⟨Bo, 0, none⟩) 0 n []) : Ord w Bo n [] := by
  have hx := OwnX.of_own h
  refine ⟨Nat.zero_le _, fun j hj => absurd hj (Nat.not_lt_zero j), fun j hj => ?_⟩
  have := hx.room j hj
  rwa [Nat.zero_add] at this
theorem Used.new {w : World} {base Bu n : Nat} (h : Own w base 4 1 (some ⟨Bu, 0, none⟩) n n (List.replicate n (.bool false))) (_hn : 0 < n) : Used w Bu n [] := by
  refine ⟨fun j hj => ?_, fun j hj => World.ownsRow.frozenAt h j⟩
  obtain ⟨b, off, e, hc⟩ := Cells.at_ (Own.toCells h) (by omega)
  cases e
  have := hc j (.bool false) (by rw [List.getElem?_replicate, if_pos hj])
  rw [Nat.zero_add] at this
  rw [this]
  simp

set_option maxHeartbeats 1000000 in
theorem eachLayers_call {S : Type} (w0 w : World) (g n : Nat) (xs : List Int) (F : List Fd) (h : FlatAt w0 g n xs F) (hb0 : Below w0.heap.size w0 w) (h1 : 1 ≤ n) (hn : n ≤ 6) (K : Nat) (caps : Array Value) (M : Nat → Prop) (hM : ∀ k, M k → w0.heap.size ≤ k ∧ k < w.heap.size)
    (Inv : Nat → S → World → Prop) (gs : S → List Int → S × Bool) (live : S → Prop) (hlive : ∀ st ys, live st → (gs st ys).2 = true → live (gs st ys).1) (st0 : S) (hL : live st0)
    (hst : ∀ q4 st W W', Inv q4 st W → KB (fun k => w.heap.size ≤ k ∧ k < q4) W W' → Inv q4 st W') (hI : ∀ q4, Inv q4 st0 w)
    (hvis : ∀ q4 st ys W A c, live st → Inv q4 st W → FlatAt W g n xs F → W.cell? ⟨w.heap.size, 0, none⟩ = some (.pointer (some ⟨g, 0, none⟩)) → W.cell? ⟨w.heap.size + 1, 0, none⟩ = some (.func (.func K) #[] caps) → ys.length = n → Ints W A n c ys → q4 ≤ W.heap.size → w.heap.size ≤ q4 →
      Calls Try.prog 43 #[.slice A n c, .pointer (some ⟨w.heap.size, 0, none⟩), .pointer (some ⟨w.heap.size + 1, 0, none⟩)] W fun e w' => e = .returned (.bool (gs st ys).2) ∧ Inv q4 (gs st ys).1 w' ∧ KB M W w')
    (W2 W3 W4 : World) (bW2 : Below w.heap.size w W2) (sW2 : W2.heap.size = w.heap.size + 2) (cf2 : W2.cell? ⟨w.heap.size, 0, none⟩ = some (.pointer (some ⟨g, 0, none⟩))) (cv2 : W2.cell? ⟨w.heap.size + 1, 0, none⟩ = some (.func (.func K) #[] caps))
    (o3 : OwnI W3 w.heap.size (some ⟨W2.heap.size, 0, none⟩) 0 n []) (b3 : Below W2.heap.size W2 W3) (o4 : Own W4 w.heap.size 4 1 (some ⟨W3.heap.size, 0, none⟩) n n (List.replicate n (.bool false))) (b4 : Below W3.heap.size W3 W4) :
    Calls Try.prog 42 #[.slice (some ⟨w.heap.size + 2, 0, none⟩) 0 n, .slice (some ⟨W3.heap.size, 0, none⟩) n n, .func (.func 43) #[] #[.pointer (some ⟨w.heap.size, 0, none⟩), .pointer (some ⟨w.heap.size + 1, 0, none⟩)]] W4
        fun e w' => (∃ v, e = .returned v) ∧ (∃ q4, Inv q4 (runV gs st0 (perms n)).1 w') ∧ KB M w w' := by
  rw [← sW2]
  have hz0 := hb0.size
  have z3 := b3.size
  have z4 := b4.size
  have l3 : W2.heap.size < W3.heap.size := o3.lt _ rfl
  have u4 := Used.new o4 (by omega)
  have l4 := u4.lt (by omega)
  have b24 : Below w.heap.size w W4 := bW2.trans ((b3.mono (by omega)).trans (b4.mono (by omega)))
  have cf4 := cell_below b4 (cell_below b3 cf2)
  have cv4 := cell_below b4 (cell_below b3 cv2)
  have I4 := hst W4.heap.size st0 w W4 (hI _) (KB.of_below b24)
  have B4 := hb0.trans (b24.mono hz0)
  have Q := impl_eachOrder n hn W2.heap.size W3.heap.size (by omega) (.pointer (some ⟨w.heap.size, 0, none⟩)) (.pointer (some ⟨w.heap.size + 1, 0, none⟩)) M (fun hm => by have := hM _ hm; omega) (fun hm => by have := hM _ hm; omega)
    (fun st W => Inv W4.heap.size st W ∧ Below w0.heap.size w0 W ∧ W.cell? ⟨w.heap.size, 0, none⟩ = some (.pointer (some ⟨g, 0, none⟩)) ∧ W.cell? ⟨w.heap.size + 1, 0, none⟩ = some (.func (.func K) #[] caps) ∧ W4.heap.size ≤ W.heap.size) gs live hlive
    (fun st W W' hi k => ⟨hst _ st W W' hi.1 (k.weak fun x hx => by rcases hx with e | e <;> rw [e] <;> omega), hi.2.1.trans (k.below (by have := hi.2.1.size; omega) (fun x hx => by rcases hx with e | e <;> rw [e] <;> omega)), k.cell hi.2.2.1 (by simp only; omega), k.cell hi.2.2.2.1 (by simp only; omega), by have := k.size; have := hi.2.2.2.2; omega⟩)
    (fun st ys W hl hi hy ho => by
      subst hy
      refine (hvis W4.heap.size st ys W (some ⟨W2.heap.size, 0, none⟩) ys.length hl hi.1 (h.below hi.2.1) hi.2.2.1 hi.2.2.2.1 rfl (ho.ints hn) hi.2.2.2.2 (by omega)).mono ?_
      rintro e W' ⟨e1, e2, k⟩
      exact ⟨e1, ⟨e2, hi.2.1.trans (k.below (by have := hi.2.1.size; omega) (fun x hx => (hM x hx).1)), k.cell hi.2.2.1 (fun hm => by have := hM _ hm; simp only at this; omega), k.cell hi.2.2.2.1 (fun hm => by have := hM _ hm; simp only at this; omega), by have := k.size; have := hi.2.2.2.2; omega⟩, k⟩)
    n [] 0 st0 W4 rfl (by omega) (by omega) ((Ord.new o3).kb (M := fun _ => False) (by omega) (KB.of_below b4) (fun h => h)) u4 hL ⟨I4, B4, cf4, cv4, Nat.le_refl _⟩
  refine Q.mono ?_
  rintro e w' ⟨rfl, i, _, _, k⟩
  refine ⟨⟨_, rfl⟩, ⟨_, i.1⟩, ⟨?_, ?_, ?_, ?_, fun x hx hn => ?_⟩⟩
  · exact k.os.trans b24.os
  · exact k.tape.trans b24.tape
  · exact k.output.trans b24.output
  · exact Nat.le_trans b24.size k.size
  · exact (k.block x (by have := b24.size; omega) (fun hm => by rcases hm with hm | hm | hm <;> first | exact hn hm | omega)).trans (b24.block x hx)

set_option maxRecDepth 100000 in
set_option maxHeartbeats 4000000 in
theorem impl_eachLayers {S : Type} (w0 w : World) (g n : Nat) (xs : List Int) (F : List Fd) (h : FlatAt w0 g n xs F) (hb0 : Below w0.heap.size w0 w) (h1 : 1 ≤ n) (hn : n ≤ 6) (K : Nat) (caps : Array Value) (M : Nat → Prop) (hM : ∀ k, M k → w0.heap.size ≤ k ∧ k < w.heap.size)
    (Inv : Nat → S → World → Prop) (gs : S → List Int → S × Bool) (live : S → Prop) (hlive : ∀ st ys, live st → (gs st ys).2 = true → live (gs st ys).1) (st0 : S) (hL : live st0)
    (hst : ∀ q4 st W W', Inv q4 st W → KB (fun k => w.heap.size ≤ k ∧ k < q4) W W' → Inv q4 st W') (hI : ∀ q4, Inv q4 st0 w)
    (hvis : ∀ q4 st ys W A c, live st → Inv q4 st W → FlatAt W g n xs F → W.cell? ⟨w.heap.size, 0, none⟩ = some (.pointer (some ⟨g, 0, none⟩)) → W.cell? ⟨w.heap.size + 1, 0, none⟩ = some (.func (.func K) #[] caps) → ys.length = n → Ints W A n c ys → q4 ≤ W.heap.size → w.heap.size ≤ q4 →
      Calls Try.prog 43 #[.slice A n c, .pointer (some ⟨w.heap.size, 0, none⟩), .pointer (some ⟨w.heap.size + 1, 0, none⟩)] W fun e w' => e = .returned (.bool (gs st ys).2) ∧ Inv q4 (gs st ys).1 w' ∧ KB M W w') :
    Calls Try.prog 26 #[.pointer (some ⟨g, 0, none⟩), .func (.func K) #[] caps] w fun e w' => (∃ v, e = .returned v) ∧ (∃ q4, Inv q4 (runV gs st0 (perms n)).1 w') ∧ KB M w w' := by
  have hfw := h.below hb0
  have hz0 := hb0.size
  obtain ⟨W2, hW2⟩ : ∃ W2, (w.alloc (.cells #[.pointer (some ⟨g, 0, none⟩)] 35)).alloc (.cells #[.func (.func K) #[] caps] 44) = W2 := ⟨_, rfl⟩
  have bW2 : Below w.heap.size w W2 := by rw [← hW2]; exact ((Below.refl _ _).alloc (Nat.le_refl _) _).alloc (by simp) _
  have sW2 : W2.heap.size = w.heap.size + 2 := by rw [← hW2]; simp
  have cf2 : W2.cell? ⟨w.heap.size, 0, none⟩ = some (.pointer (some ⟨g, 0, none⟩)) := by rw [← hW2]; exact cell_below ((Below.refl _ _).alloc (Nat.le_refl _) _) (cell_alloc_new _ _ _)
  have cv2 : W2.cell? ⟨w.heap.size + 1, 0, none⟩ = some (.func (.func K) #[] caps) := by
    rw [← hW2]
    have := cell_alloc_new (w.alloc (.cells #[.pointer (some ⟨g, 0, none⟩)] 35)) (.func (.func K) #[] caps) 44
    rwa [show (w.alloc (.cells #[.pointer (some ⟨g, 0, none⟩)] 35)).heap.size = w.heap.size + 1 by simp] at this
  have cm2 := cell_below bW2 hfw.many
  have HE := Lib.hid (fun (W3 W4 : World) o3 b3 o4 b4 => eachLayers_call w0 w g n xs F h hb0 h1 hn K caps M hM Inv gs live hlive st0 hL hst hI hvis W2 W3 W4 bW2 sW2 cf2 cv2 o3 b3 o4 b4)
  clear hst hI hvis hlive hM h hfw hL
  go_enter Try.func26, Try.ntmps26
  go_wp2_with (first
    | (at_make; refine wpList_make_cap tyInts rfl _ _ rfl w.heap.size _ n rfl rfl rfl (by omega) bW2.size ?_; intro W3 o3 g3; have b3 : Below W2.heap.size W2 W3 := (Below.refl _ _).grown g3 (Nat.le_refl _) (by simp); have cf3 := cell_below b3 cf2; have cm3 := cell_below b3 cm2; have z3 := b3.size)
    | (at_make; refine wpList_make_bools tyBools rfl _ _ rfl w.heap.size _ _ n rfl rfl rfl rfl (by omega) (by omega) ?_; intro W4 o4 g4; have b4 : Below W3.heap.size W3 W4 := (Below.refl _ _).grown g4 (Nat.le_refl _) (by simp))
    | (go_at_call 42; refine (HE.out W3 W4 o3 b3 o4 b4).mono ?_; rintro e w5 ⟨⟨v, rfl⟩, hinv, hkb⟩))
  go_end0
  exact ⟨⟨_, rfl⟩, hinv, hkb⟩

theorem count_call (g n : Nat) (xs : List Int) (F : List Fd) (w : World) (h : FlatAt w g n xs F) (hl : xs.length = n) (h1 : 1 ≤ n) (hn : n ≤ 6) (hF : parF n F) (hap : apartF n F) (hFl : F.length ≤ 6) :
    Calls Try.prog 26 #[.pointer (some ⟨g, 0, none⟩), .func (.func 27) #[] #[.pointer (some ⟨w.heap.size, 0, none⟩)]] (w.alloc (.cells #[.int .i64 0] 3))
      fun e w' => (∃ v, e = .returned v) ∧ w'.cell? ⟨w.heap.size, 0, none⟩ = some (.int .i64 (((perms n).filter (rightB xs F)).length : Int)) ∧ Below w.heap.size w w' := by
  have b1 : Below w.heap.size w (w.alloc (.cells #[.int .i64 0] 3)) := (Below.refl _ _).alloc (Nat.le_refl _) _
  have s1 : (w.alloc (.cells #[.int .i64 0] 3)).heap.size = w.heap.size + 1 := by simp
  have c1 : (w.alloc (.cells #[.int .i64 0] 3)).cell? ⟨w.heap.size, 0, none⟩ = some (.int .i64 0) := cell_alloc_new _ _ _
  have f1 : (w.alloc (.cells #[.int .i64 0] 3)).frozen? ⟨w.heap.size, 0, none⟩ = false := by simp
  generalize (w.alloc (.cells #[.int .i64 0] 3)) = W1 at b1 s1 c1 f1 ⊢
  have Q := impl_eachLayers w W1 g n xs F h b1 h1 hn 27 #[.pointer (some ⟨w.heap.size, 0, none⟩)] (fun k => k = w.heap.size) (fun k hk => by omega)
    (fun _ c W => W.cell? ⟨w.heap.size, 0, none⟩ = some (.int .i64 c) ∧ W.frozen? ⟨w.heap.size, 0, none⟩ = false) (gC xs F) (fun _ => True) (fun _ _ _ _ => trivial) 0 trivial
    (fun q4 st W W' hi k => ⟨k.cell hi.1 (by simp only; omega), by rw [World.frozen?_of_block (a := ⟨w.heap.size, 0, none⟩) (k.block w.heap.size (World.block_lt_of_cell? _ _ hi.1) (by omega))]; exact hi.2⟩) (fun _ => ⟨c1, f1⟩)
    (fun q4 st ys W A c _ hi hf cf cv hy hA _ _ => each1_count g n xs F hl hn hF hap hFl W1.heap.size (W1.heap.size + 1) w.heap.size A n c ys W hf hA (by omega) cf cv st hi.1 hi.2)
  refine Q.mono ?_
  rintro e w' ⟨hv, ⟨_, hi⟩, k⟩
  have hlen : (perms n).length ≤ 823543 := allL_small (by omega) (by omega) []
  rw [runV_count xs F (perms n) 0 (by omega) (by omega), Int.zero_add] at hi
  exact ⟨hv, hi.1, b1.trans (k.below (by omega) (fun x hx => by omega))⟩

set_option maxHeartbeats 2000000 in
theorem impl_count (g n : Nat) (xs : List Int) (F : List Fd) (w : World) (h : FlatAt w g n xs F) (hl : xs.length = n) (h1 : 1 ≤ n) (hn : n ≤ 6) (hF : parF n F) (hap : apartF n F) (hFl : F.length ≤ 6) :
    Calls Try.prog 14 #[.pointer (some ⟨g, 0, none⟩)] w (RVal w (.int .i64 (((perms n).filter (rightB xs F)).length : Int))) := by
  have Q := Lib.hid (count_call g n xs F w h hl h1 hn hF hap hFl)
  clear h hF hap
  go_enter Try.func14, Try.ntmps14
  go_wp2_with (go_at_call 26; refine Q.out.mono ?_; rintro e w1 ⟨⟨v, rfl⟩, c1, b1⟩)
  go_ret
  exact ⟨rfl, b1⟩

theorem first_call (g n : Nat) (xs : List Int) (F : List Fd) (w : World) (h : FlatAt w g n xs F) (hl : xs.length = n) (h1 : 1 ≤ n) (hn : n ≤ 6) (hF : parF n F) (hap : apartF n F) (hFl : F.length ≤ 6) :
    Calls Try.prog 26 #[.pointer (some ⟨g, 0, none⟩), .func (.func 32) #[] #[.pointer (some ⟨w.heap.size + 1, 0, none⟩), .pointer (some ⟨w.heap.size + 1 + 1, 0, none⟩)]]
      (((w.alloc (.cells #[] 3)).alloc (.cells #[.slice (some ⟨w.heap.size, 0, none⟩) 0 0] 23)).alloc (.cells #[.bool false] 4))
      fun e w' => (∃ v, e = .returned v) ∧ (∃ A m c, w'.cell? ⟨w.heap.size + 1, 0, none⟩ = some (.slice A m c) ∧ OwnI w' w.heap.size A m c (((perms n).filter (rightB xs F)).head?.getD [])) ∧ w'.cell? ⟨w.heap.size + 1 + 1, 0, none⟩ = some (.bool ((perms n).filter (rightB xs F)).head?.isSome) ∧ Below w.heap.size w w' := by
  obtain ⟨Wa, hWa⟩ : ∃ W, w.alloc (.cells #[] 3) = W := ⟨_, rfl⟩
  obtain ⟨Wb, hWb⟩ : ∃ W, Wa.alloc (.cells #[.slice (some ⟨w.heap.size, 0, none⟩) 0 0] 23) = W := ⟨_, rfl⟩
  obtain ⟨W1, hW1⟩ : ∃ W, Wb.alloc (.cells #[.bool false] 4) = W := ⟨_, rfl⟩
  have sa : Wa.heap.size = w.heap.size + 1 := by rw [← hWa]; simp
  have sb : Wb.heap.size = w.heap.size + 2 := by rw [← hWb]; simp; omega
  have s1 : W1.heap.size = w.heap.size + 3 := by rw [← hW1]; simp; omega
  have ba : Below w.heap.size w Wa := by rw [← hWa]; exact (Below.refl _ _).alloc (Nat.le_refl _) _
  have bb : Below Wa.heap.size Wa Wb := by rw [← hWb]; exact (Below.refl _ _).alloc (Nat.le_refl _) _
  have bc : Below Wb.heap.size Wb W1 := by rw [← hW1]; exact (Below.refl _ _).alloc (Nat.le_refl _) _
  have b1 : Below w.heap.size w W1 := ba.trans ((bb.mono (by omega)).trans (bc.mono (by omega)))
  have oa : OwnI Wa w.heap.size (some ⟨w.heap.size, 0, none⟩) 0 0 [] := by rw [← hWa]; exact OwnI.lit0 w (Nat.le_refl _)
  have o1 : OwnI W1 w.heap.size (some ⟨w.heap.size, 0, none⟩) 0 0 [] := (oa.below bb).below bc
  have cs : Wb.cell? ⟨w.heap.size + 1, 0, none⟩ = some (.slice (some ⟨w.heap.size, 0, none⟩) 0 0) := by rw [← hWb, ← sa]; exact cell_alloc_new _ _ _
  have cs1 := cell_below bc cs
  have fs : Wb.frozen? ⟨w.heap.size + 1, 0, none⟩ = false := by rw [← hWb, ← sa]; simp
  have fs1 : W1.frozen? ⟨w.heap.size + 1, 0, none⟩ = false := (World.frozen?_of_block (a := ⟨w.heap.size + 1, 0, none⟩) (bc.block (w.heap.size + 1) (by omega))).trans fs
  have cb1 : W1.cell? ⟨w.heap.size + 1 + 1, 0, none⟩ = some (.bool false) := by rw [← hW1, show w.heap.size + 1 + 1 = Wb.heap.size by omega]; exact cell_alloc_new _ _ _
  have fb1 : W1.frozen? ⟨w.heap.size + 1 + 1, 0, none⟩ = false := by rw [← hW1, show w.heap.size + 1 + 1 = Wb.heap.size by omega]; simp
  rw [hWa, hWb, hW1]
  have Q := impl_eachLayers w W1 g n xs F h b1 h1 hn 32 #[.pointer (some ⟨w.heap.size + 1, 0, none⟩), .pointer (some ⟨w.heap.size + 1 + 1, 0, none⟩)] (fun k => w.heap.size ≤ k ∧ k < W1.heap.size) (fun k hk => hk)
    (fun q4 o W => InvF w.heap.size (w.heap.size + 1) (w.heap.size + 1 + 1) W1.heap.size q4 o W) (gF xs F) (fun o => o = none) (fun o ys ho ht => by
      unfold gF at ht ⊢
      by_cases hr : rightB xs F ys = true
      · rw [if_pos hr] at ht; cases ht
      · rw [if_neg hr]; exact ho) none rfl
    (fun q4 st W W' hi k => hi.kb (fun hm => by omega) (fun hm => by omega) (fun _ hk => hk) k)
    (fun q4 => ⟨⟨_, _, _, cs1, o1, fun x hx => by cases hx; left; simp only; omega, fun _ => ⟨_, rfl, rfl, rfl, Nat.le_refl _, by omega, by omega, by omega⟩⟩, cb1, fs1, fb1⟩)
    (fun q4 st ys W A c hst hi hf cf cv hy hA hq hq2 => by
      subst hst
      exact each1_first g n xs F hl hn hF hap hFl W1.heap.size (W1.heap.size + 1) w.heap.size (w.heap.size + 1) (w.heap.size + 1 + 1) W1.heap.size q4 (by omega) A n c ys W hf hA (by omega) cf cv hi (by omega) hq (by omega) (by omega) (by omega) (by omega))
  refine Q.mono ?_
  rintro e w' ⟨hv, ⟨_, hi⟩, k⟩
  rw [runV_first] at hi
  obtain ⟨A, m, c, h1, h2, _, _⟩ := hi.has
  exact ⟨hv, ⟨A, m, c, h1, h2⟩, hi.found, b1.trans (k.below (by omega) (fun x hx => hx.1))⟩

set_option maxHeartbeats 2000000 in
theorem impl_firstLayers (g n : Nat) (xs : List Int) (F : List Fd) (w : World) (h : FlatAt w g n xs F) (hl : xs.length = n) (h1 : 1 ≤ n) (hn : n ≤ 6) (hF : parF n F) (hap : apartF n F) (hFl : F.length ≤ 6) :
    Calls Try.prog 17 #[.pointer (some ⟨g, 0, none⟩)] w (RIntsB w (((perms n).filter (rightB xs F)).head?.getD []) ((perms n).filter (rightB xs F)).head?.isSome) := by
  have Q := Lib.hid (first_call g n xs F w h hl h1 hn hF hap hFl)
  clear h hF hap
  generalize ((perms n).filter (rightB xs F)).head? = o at Q ⊢
  go_enter Try.func17, Try.ntmps17
  go_wp2_with (go_at_call 26; refine Q.out.mono ?_; rintro e w1 ⟨⟨v, rfl⟩, ⟨A, m, c, c1, o1⟩, d1, b1⟩)
  go_quiet (fail)
  go_wp2_with fail
  go_ret2
  exact ⟨_, _, _, rfl, o1.below (below_drewN (Below.refl _ _) nq), below_drewN b1 nq⟩
end Go.Proofs.Ytahbflbhkalehaa
