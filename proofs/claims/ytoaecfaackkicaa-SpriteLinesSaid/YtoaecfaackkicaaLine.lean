/- The document's line of sprites: what it is, and the walk. -/
import Derived.Test.YtoaecfaackkicaaDot
namespace Go.Proofs.Ytoaecfaackkicaa
open Go Go.RowKit

def dtc (d : Dt) (j : Nat) : Value := if j = 0 then .bool d.see else if j = 1 then .int .u8 d.prio else if j = 2 then .int .u8 d.index else .int .u16 d.colour
def lineC (fv sv : Value) (ro late : Bool) (d : Nat → Dt) : Nat → Value := fun i =>
  if i = 0 then fv else if i = 1 then sv else if i = 2 then .bool ro else if i = 3 then .bool late else dtc (d ((i - 4) / 4)) ((i - 4) % 4)
def zline : Nat → Value := lineC (.slice none 0 0) (.slice none 0 0) false false fun _ => Dt.none

theorem Try.infoLine : Try.prog.info? 41 = some Try.t41 := by kernel_rfl
theorem Try.lenLine : (zcells Try.t41).length = 1028 := by kernel_rfl
theorem Try.chkLine : chkAll zline (zcells Try.t41) 0 = true := by kernel_rfl
theorem Try.zeroLine (w : World) : (zeroValue 41).run Try.prog w = .ok (.agg (blk 1028 zline)) w := zero_run Try.infoLine Try.lenLine (by decide) Try.chkLine w
theorem Try.sizeLine : (Try.prog.info? 41).map (·.size) = some 1028 := by kernel_rfl

/-- The sprites of a line, and its slivers. -/
def Mem.cands (M : Mem) (first : Nat) (y : Int) : List Nat := candTo M.oa M.r1 first y 128
def Mem.found (M : Mem) (first : Nat) (y : Int) : List Nat := (M.cands first y).take 32
def Mem.over (M : Mem) (first : Nat) (y : Int) : Bool := decide (32 < (M.cands first y).length)
def Mem.slAll (M : Mem) (first : Nat) (y : Int) : List Sl := Go.Proofs.Ytoaecfaackkicaa.slAll M.oa M.r1 y (M.found first y)
def Mem.slivers (M : Mem) (first : Nat) (y : Int) : List Sl := (M.slAll first y).take 34
def Mem.late (M : Mem) (first : Nat) (y : Int) : Bool := decide (34 < (M.slAll first y).length)
def Mem.rdots (M : Mem) (first : Nat) (y : Int) (x : Nat) : Dt := rdotL M (M.slivers first y) x (M.found first y)

theorem mem_candTo {oa : Nat → Int} {r1 : Int} {first : Nat} {y : Int} {n : Nat} : ∀ {k : Nat}, n ∈ candTo oa r1 first y k → n < 128 ∧ onLine (spOf oa r1 n) y = true := by
  intro k
  induction k with
  | zero => simp [candTo]
  | succ k ih =>
    intro h
    simp only [candTo, List.mem_append] at h
    rcases h with h | h
    · exact ih h
    · split at h
      · rename_i ho
        simp only [List.mem_singleton] at h
        subst h
        exact ⟨by unfold ixOf; omega, ho⟩
      · simp at h
theorem mem_found {M : Mem} {first : Nat} {y : Int} {n : Nat} (h : n ∈ M.found first y) : n < 128 ∧ onLine (M.sp n) y = true := mem_candTo (List.mem_of_mem_take h)
theorem mem_slTo {p : Sp} {n row : Int} {s : Sl} : ∀ {c : Nat}, s ∈ slTo p n row c → ∃ k : Nat, k < c ∧ s = ⟨n, p.x + 8 * (k : Int), k, row⟩ ∧ -7 ≤ s.x ∧ s.x ≤ 255 := by
  intro c
  induction c with
  | zero => simp [slTo]
  | succ c ih =>
    intro h
    simp only [slTo, List.mem_append] at h
    rcases h with h | h
    · obtain ⟨k, hk, r⟩ := ih h; exact ⟨k, by omega, r⟩
    · split at h
      · rename_i hr
        simp only [List.mem_singleton] at h
        subst h
        exact ⟨c, by omega, rfl, hr.1, hr.2⟩
      · simp at h
theorem mem_slAll {oa : Nat → Int} {r1 y : Int} {s : Sl} : ∀ {l : List Nat}, s ∈ slAll oa r1 y l → ∃ n ∈ l, s ∈ slOf oa r1 y n := by
  intro l
  induction l with
  | nil => simp [slAll]
  | cons n l ih =>
    intro h
    simp only [slAll, List.mem_append] at h
    rcases h with h | h
    · obtain ⟨m, hm, r⟩ := ih h; exact ⟨m, by simp [hm], r⟩
    · exact ⟨n, by simp, h⟩
theorem slivers_ok {M : Mem} {first : Nat} {y : Int} {s : Sl} (h : s ∈ M.slivers first y) : SlOk M y s ∧ -7 ≤ s.x ∧ s.x ≤ 255 ∧ ∃ n ∈ M.found first y, s ∈ slOf M.oa M.r1 y n := by
  obtain ⟨n, hn, hs⟩ := mem_slAll (List.mem_of_mem_take h)
  obtain ⟨hn1, ho⟩ := mem_found hn
  unfold onLine at ho
  simp only [Bool.and_eq_true] at ho
  obtain ⟨k, hk, he, hx⟩ := mem_slTo hs
  refine ⟨⟨n, hn1, by rw [he], by rw [he]; simp, ?_, by rw [he]; rfl, ho.1, by rw [he]; rfl⟩, hx.1, hx.2, n, hn, hs⟩
  rw [he]
  show (k : Int) < (spOf M.oa M.r1 n).w / 8
  omega
theorem found_len (M : Mem) (first : Nat) (y : Int) : (M.found first y).length ≤ 32 := by unfold Mem.found; rw [List.length_take]; omega
theorem slivers_len (M : Mem) (first : Nat) (y : Int) : (M.slivers first y).length ≤ 34 := by unfold Mem.slivers; rw [List.length_take]; omega

/-- A list cut at its end. -/
theorem ownsRow_take {w : World} {base e size n g cap m : Nat} {xs : List Value} (h : w.ownsRow base e size (.slice (some ⟨g, 0, none⟩) n cap) n xs) (hm : m ≤ n) : w.ownsRow base e size (.slice (some ⟨g, 0, none⟩) m cap) m (xs.take (m * size)) := by
  obtain ⟨h1, h2⟩ := h
  have hms : m * size ≤ n * size := Nat.mul_le_mul_right _ hm
  refine ⟨by rw [List.length_take, h1]; omega, ?_⟩
  rcases h2 with ⟨h2, -⟩ | ⟨g', cap', cur, hv, hg, hh, h3, h4, h5, h6⟩
  · cases h2
  · cases hv
    refine Or.inr ⟨g, cap, cur, rfl, hg, hh, by omega, h4, h5, ?_⟩
    rw [← h6, List.take_take]; congr 1; omega
theorem OwnI.take {w : World} {B g cap m : Nat} {L : List Nat} {len : Nat} (h : OwnI B w (.slice (some ⟨g, 0, none⟩) len cap) (ints L)) (hl : len = L.length) (hm : m ≤ len) : OwnI B w (.slice (some ⟨g, 0, none⟩) m cap) (ints (L.take m)) := by
  subst hl
  unfold OwnI at h ⊢
  rw [ints_len] at h
  have := ownsRow_take h hm
  rw [ints_len, List.length_take, Nat.min_eq_left hm]
  simpa [ints, List.map_take] using this
theorem flat_take (S : List Sl) (m : Nat) : (S.flatMap Sl.cs).take (m * 4) = (S.take m).flatMap Sl.cs := by
  induction S generalizing m with
  | nil => simp
  | cons s S ih =>
    cases m with
    | zero => simp
    | succ m =>
      have : (m + 1) * 4 = (Sl.cs s).length + m * 4 := by simp [Sl.cs]; omega
      rw [List.flatMap_cons, this, List.take_append, List.take_of_length_le (by simp [Sl.cs]), List.take_succ_cons, List.flatMap_cons, Nat.add_sub_cancel_left, ih]
theorem OwnS.take {w : World} {B g cap m : Nat} {S : List Sl} {len : Nat} (h : OwnS B w (.slice (some ⟨g, 0, none⟩) len cap) S) (hl : len = S.length) (hm : m ≤ len) : OwnS B w (.slice (some ⟨g, 0, none⟩) m cap) (S.take m) := by
  subst hl
  unfold OwnS at h ⊢
  have := ownsRow_take h hm
  rw [flat_take] at this
  rw [List.length_take, Nat.min_eq_left hm]
  exact this
end Go.Proofs.Ytoaecfaackkicaa
