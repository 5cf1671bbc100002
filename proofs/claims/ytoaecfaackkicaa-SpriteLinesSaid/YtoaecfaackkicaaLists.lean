/- Lists of numbers and of slivers in memory of the call's own; the functions that compare, spoil and gather them. -/
import Derived.Test.YtoaecfaackkicaaLeaf
import Derived.Test.YtoaecfaackkicaaObj
namespace Go.Proofs.Ytoaecfaackkicaa
open Go Go.RowKit

def iv (x : Int) : Value := .int .i64 x
/-- v is a list of the numbers xs, in a block from B on. -/
def OwnI (B : Nat) (w : World) (v : Value) (xs : List Int) : Prop := w.ownsRow B 3 1 v xs.length (xs.map iv)
/-- A sliver: the sprite's number, where it lies, its column and row. -/
structure Sl where
  (sp x col row : Int)
def Sl.cs (s : Sl) : List Value := [iv s.sp, iv s.x, iv s.col, iv s.row]
def OwnS (B : Nat) (w : World) (v : Value) (ss : List Sl) : Prop := w.ownsRow B 52 4 v ss.length (ss.flatMap Sl.cs)

theorem below_heap {B : Nat} {w w' : World} (h : Below B w w') {g : Nat} (hg : g < B) : w'.heap[g]? = w.heap[g]? := h.block g hg
theorem ownsRow_below {w w' : World} {base e size n : Nat} {v : Value} {xs : List Value} (h : w.ownsRow base e size v n xs) {B : Nat} (hb : Below B w w') (hB : ∀ g, v.ownBlock = some g → g < B) : w'.ownsRow base e size v n xs := by
  obtain ⟨h1, h2⟩ := h
  refine ⟨h1, ?_⟩
  rcases h2 with h2 | ⟨g, cap, cur, rfl, hg, hh, r⟩
  · exact Or.inl h2
  · exact Or.inr ⟨g, cap, cur, rfl, hg, by rw [hb.block g (hB g rfl)]; exact hh, r⟩
theorem OwnI.below {B B' : Nat} {w w' : World} {v : Value} {xs : List Int} (h : OwnI B w v xs) (hb : Below B' w w') (hB : ∀ g, v.ownBlock = some g → g < B') : OwnI B w' v xs := ownsRow_below h hb hB
theorem OwnI.lt {B : Nat} {w : World} {v : Value} {xs : List Int} (h : OwnI B w v xs) : ∀ g, v.ownBlock = some g → g < w.heap.size := fun g hg => (World.ownsRow.lt h g hg).2
theorem OwnS.lt {B : Nat} {w : World} {v : Value} {xs : List Sl} (h : OwnS B w v xs) : ∀ g, v.ownBlock = some g → g < w.heap.size := fun g hg => (World.ownsRow.lt h g hg).2
theorem OwnI.full {B : Nat} {w w' : World} {v : Value} {xs : List Int} (h : OwnI B w v xs) (hb : Below w.heap.size w w') : OwnI B w' v xs := h.below hb h.lt
theorem OwnS.full {B : Nat} {w w' : World} {v : Value} {xs : List Sl} (h : OwnS B w v xs) (hb : Below w.heap.size w w') : OwnS B w' v xs := ownsRow_below h hb h.lt
theorem OwnI.mono {B B' : Nat} {w : World} {v : Value} {xs : List Int} (h : OwnI B w v xs) (hB : B' ≤ B) : OwnI B' w v xs := by
  obtain ⟨h1, h2⟩ := h
  refine ⟨h1, ?_⟩
  rcases h2 with h2 | ⟨g, cap, cur, r, hg, hh⟩
  · exact Or.inl h2
  · exact Or.inr ⟨g, cap, cur, r, Nat.le_trans hB hg, hh⟩
theorem OwnS.mono {B B' : Nat} {w : World} {v : Value} {xs : List Sl} (h : OwnS B w v xs) (hB : B' ≤ B) : OwnS B' w v xs := by
  obtain ⟨h1, h2⟩ := h
  refine ⟨h1, ?_⟩
  rcases h2 with h2 | ⟨g, cap, cur, r, hg, hh⟩
  · exact Or.inl h2
  · exact Or.inr ⟨g, cap, cur, r, Nat.le_trans hB hg, hh⟩

theorem VidAt.but {w w' : World} {b bv : Nat} {vr oa cg : Nat → Int} (h : VidAt w bv vr oa cg) (k : But b w w') (hb : bv ≠ b) : VidAt w' bv vr oa cg :=
  ⟨fun i hi => k.cell (h.vram i hi) hb, fun i hi => k.cell (h.oam i hi) hb, fun i hi => k.cell (h.cg i hi) hb, h.vrB, h.oamB⟩
/-- What the walk wants to know of a list of numbers. -/
theorem OwnI.form {B : Nat} {w : World} {v : Value} {xs : List Int} (h : OwnI B w v xs) :
    ∃ a cap, v = .slice a xs.length cap ∧ xs.length ≤ cap ∧ cap ≤ maxLen ∧
      (xs.length = 0 ∨ ∃ g, a = some ⟨g, 0, none⟩ ∧ B ≤ g ∧ g < w.heap.size ∧ (∀ i, i < xs.length → w.cell? ⟨g, i, none⟩ = some (.int .i64 (xs.getD i 0))) ∧ ∀ i, w.frozen? ⟨g, i, none⟩ = false) := by
  have h' := h
  obtain ⟨h1, h2⟩ := h
  rcases h2 with ⟨rfl, h2⟩ | ⟨g, cap, cur, rfl, hg, hh, h3, h4, h5, h6⟩
  · rw [h2]; exact ⟨none, 0, rfl, Nat.le_refl _, Nat.zero_le _, Or.inl rfl⟩
  · refine ⟨some ⟨g, 0, none⟩, cap, rfl, h3, h4, Or.inr ⟨g, rfl, hg, (Array.getElem?_eq_some_iff.1 hh).1, fun i hi => ?_, fun i => World.ownsRow.frozenAt h' i⟩⟩
    rw [World.ownsRow.cellAt h' i (by omega)]
    simp [iv, hi]
theorem flat_get (ss : List Sl) (i j : Nat) (hi : i < ss.length) (hj : j < 4) : (ss.flatMap Sl.cs)[4 * i + j]? = (ss[i].cs)[j]? := by
  induction ss generalizing i with
  | nil => simp at hi
  | cons s ss ih =>
    cases i with
    | zero => rw [List.flatMap_cons, Nat.mul_zero, Nat.zero_add, List.getElem?_append_left (by simp [Sl.cs]; omega)]; simp
    | succ i =>
      rw [List.flatMap_cons, List.getElem?_append_right (by simp [Sl.cs]; omega)]
      rw [show 4 * (i + 1) + j - (Sl.cs s).length = 4 * i + j by simp [Sl.cs]; omega, ih i (by simpa using hi)]
      rfl
theorem flat_len (ss : List Sl) : (ss.flatMap Sl.cs).length = ss.length * 4 := by
  induction ss with
  | nil => rfl
  | cons s ss ih => rw [List.flatMap_cons, List.length_append, ih]; simp [Sl.cs]; omega
/-- .. and of a list of slivers. -/
theorem OwnS.form {B : Nat} {w : World} {v : Value} {ss : List Sl} (h : OwnS B w v ss) :
    ∃ a cap, v = .slice a ss.length cap ∧ ss.length ≤ cap ∧ cap ≤ maxLen ∧
      (ss.length = 0 ∨ ∃ g, a = some ⟨g, 0, none⟩ ∧ B ≤ g ∧ g < w.heap.size ∧
        (∀ i (hi : i < ss.length), w.cell? ⟨g, i * 4, none⟩ = some (.int .i64 ss[i].sp) ∧ w.cell? ⟨g, i * 4 + 1, none⟩ = some (.int .i64 ss[i].x) ∧ w.cell? ⟨g, i * 4 + 2, none⟩ = some (.int .i64 ss[i].col) ∧ w.cell? ⟨g, i * 4 + 3, none⟩ = some (.int .i64 ss[i].row)) ∧ ∀ i, w.frozen? ⟨g, i, none⟩ = false) := by
  have h' := h
  obtain ⟨h1, h2⟩ := h
  rcases h2 with ⟨rfl, h2⟩ | ⟨g, cap, cur, rfl, hg, hh, h3, h4, h5, h6⟩
  · exact ⟨none, 0, by rw [h2], by omega, by simp, Or.inl h2⟩
  · refine ⟨some ⟨g, 0, none⟩, cap, rfl, h3, h4, Or.inr ⟨g, rfl, hg, (Array.getElem?_eq_some_iff.1 hh).1, fun i hi => ?_, fun i => World.ownsRow.frozenAt h' i⟩⟩
    have c : ∀ j, j < 4 → w.cell? ⟨g, i * 4 + j, none⟩ = (ss[i].cs)[j]? := fun j hj => by
      rw [World.ownsRow.cellAt h' _ (by omega), Nat.mul_comm, flat_get ss i j hi hj]
    exact ⟨c 0 (by decide), c 1 (by decide), c 2 (by decide), c 3 (by decide)⟩

set_option maxRecDepth 100000 in
set_option maxHeartbeats 400000 in
theorem ints_any (B B' : Nat) (w : World) (v v' : Value) (xs : List Int) (h : OwnI B w v xs) (h' : OwnI B' w v' xs) :
    Calls Try.prog 20 #[v, v'] w fun e w' => e = .returned (.bool true) ∧ ∃ n, w' = w.drewN n := by
  obtain ⟨a, cap, rfl, hc, hm, hx⟩ := h.form
  obtain ⟨a', cap', rfl, hc', hm', hx'⟩ := h'.form
  unfold maxLen at hm hm'
  have t0 : ((xs.length : Int) != xs.length) = false := by simp
  clear h h'
  obtain ⟨n, hn⟩ : ∃ n, n = xs.length := ⟨_, rfl⟩
  rw [← hn] at hc hx hc' hx' t0 ⊢
  have HN := Lib.hid hn
  clear hn
  go_enter Try.func20, Try.ntmps20
  go_wp2
  go_loopw [5] (fun i wr => ∃ k : Nat, k ≤ n ∧ i = .int .i64 k ∧ ∃ m, wr = w.drewN m) (fun i _ => n - (intOf i).toNat)
  case atStart => exact ⟨0, by omega, rfl, 0, rfl⟩
  case round =>
    obtain ⟨k, hk, rfl, m, rfl⟩ := hrel
    by_cases hlt : k < n
    · have t1 : decide ((k : Int) < n) = true := decide_eq_true (by omega)
      rcases hx with hx | ⟨g, rfl, -, -, hg, -⟩
      · omega
      rcases hx' with hx' | ⟨g', rfl, -, -, hg', -⟩
      · omega
      have c1 := hg k hlt
      have c2 := hg' k hlt
      have i0 : (0 : Int) ≤ (k : Int) := by omega
      have i1 : (k : Int) < n := by omega
      clear hg hg' hlt
      obtain ⟨z, hz⟩ : ∃ z, z = xs.getD k 0 := ⟨_, rfl⟩
      rw [← hz] at c1 c2
      clear hz
      go_wp2
      go_quiet (fail)
      go_wp2
      go_roundw
      case rel => exact ⟨k + 1, by omega, by go_num, _, rfl⟩
      case measure => simp [intOf]; omega
    · have t1 : decide ((k : Int) < n) = false := decide_eq_false (by omega)
      go_wp2
      go_ret
      exact ⟨rfl, _, rfl⟩
end Go.Proofs.Ytoaecfaackkicaa
