/- The plain law of the sprites' line: what is painted over sliver by sliver is, dot by dot, what the first sprite has there. No program is walked here. -/
import Derived.Test.YtoaecfaackkicaaPLine
namespace Go.Proofs.Ytoaecfaackkicaa
open Go Go.RowKit

def hitS (M : Mem) (s : Sl) (x : Int) : Bool := decide (s.x ≤ x) && (decide (x ≤ s.x + 7) && decide (0 < slNum M s.sp.toNat s x))
theorem hitS_iff {M : Mem} {s : Sl} {x : Int} : hitS M s x = true ↔ s.x ≤ x ∧ x ≤ s.x + 7 ∧ 0 < slNum M s.sp.toNat s x := by simp [hitS]
theorem hits_of {M : Mem} {s : Sl} {x : Int} {n : Nat} (h : s.sp = (n : Int)) : hits M n s x = hitS M s x := by
  unfold hits hitS
  rw [h, Int.toNat_natCast]
  simp
theorem hits_ne {M : Mem} {s : Sl} {x : Int} {n : Nat} (h : s.sp ≠ (n : Int)) : hits M n s x = false := by simp [hits, h]

theorem paint1_at (M : Mem) (s : Sl) (d : Nat → Dt) (X : Nat) (hX : X < 256) : ∀ k : Nat, paint1 M s d k X = if s.x ≤ X ∧ (X : Int) < s.x + k ∧ 0 < slNum M s.sp.toNat s X then slDot M s.sp.toNat s X else d X := by
  intro k
  induction k with
  | zero => rw [if_neg (by omega)]; rfl
  | succ k ih =>
    show (if 0 ≤ s.x + (k : Int) ∧ s.x + (k : Int) < 256 ∧ 0 < slNum M s.sp.toNat s (s.x + (k : Int)) then dput (paint1 M s d k) (s.x + (k : Int)).toNat (slDot M s.sp.toNat s (s.x + (k : Int))) else paint1 M s d k) X = _
    by_cases e : s.x + (k : Int) = X
    · rw [e]
      by_cases h : 0 < slNum M s.sp.toNat s X
      · rw [if_pos ⟨by omega, by omega, h⟩, if_pos ⟨by omega, by omega, h⟩, Int.toNat_natCast]
        unfold dput; rw [if_pos rfl]
      · rw [if_neg (fun hh => h hh.2.2), if_neg (fun hh => h hh.2.2), ih, if_neg (fun hh => h hh.2.2)]
    · have e2 : (if s.x ≤ X ∧ (X : Int) < s.x + ((k + 1 : Nat) : Int) ∧ 0 < slNum M s.sp.toNat s X then slDot M s.sp.toNat s X else d X) = if s.x ≤ X ∧ (X : Int) < s.x + k ∧ 0 < slNum M s.sp.toNat s X then slDot M s.sp.toNat s X else d X := by
        by_cases h : s.x ≤ X ∧ (X : Int) < s.x + k ∧ 0 < slNum M s.sp.toNat s X
        · rw [if_pos h, if_pos ⟨h.1, by omega, h.2.2⟩]
        · rw [if_neg h, if_neg (fun hh => h ⟨hh.1, by omega, hh.2.2⟩)]
      rw [e2, ← ih]
      split
      · rename_i h; unfold dput; rw [if_neg (by omega)]
      · rfl
theorem paint1_8 (M : Mem) (s : Sl) (d : Nat → Dt) (X : Nat) (hX : X < 256) : paint1 M s d 8 X = if hitS M s X = true then slDot M s.sp.toNat s X else d X := by
  rw [paint1_at M s d X hX 8]
  by_cases h : hitS M s X = true
  · rw [if_pos h]; have := hitS_iff.1 h; rw [if_pos ⟨this.1, by omega, this.2.2⟩]
  · rw [if_neg h, if_neg (fun hh => h (hitS_iff.2 ⟨hh.1, by omega, hh.2.2⟩))]
theorem paintL_append (M : Mem) (d : Nat → Dt) (A B : List Sl) : paintL M d (A ++ B) = paintL M (paintL M d A) B := by unfold paintL; rw [List.foldl_append]
theorem paintL_cons (M : Mem) (d : Nat → Dt) (s : Sl) (B : List Sl) : paintL M d (s :: B) = paintL M (paint1 M s d 8) B := rfl

theorem rdotS_none {M : Mem} {n : Nat} {x : Int} {S : List Sl} (h : ∀ s ∈ S, hits M n s x = false) : rdotS M n x S = none := by
  induction S with
  | nil => rfl
  | cons s S ih => simp [rdotS, h s (by simp), ih (fun t ht => h t (by simp [ht]))]
theorem rdotS_append (M : Mem) (n : Nat) (x : Int) (A B : List Sl) (h : rdotS M n x A = none) : rdotS M n x (A ++ B) = rdotS M n x B := by
  induction A with
  | nil => rfl
  | cons s A ih =>
    simp only [rdotS] at h
    split at h
    · cases h
    · rename_i hs
      simp only [List.cons_append, rdotS, hs]
      exact ih h
theorem rdotS_app_some {M : Mem} {n : Nat} {x : Int} {A B : List Sl} {v : Dt} (h : rdotS M n x A = some v) : rdotS M n x (A ++ B) = some v := by
  induction A with
  | nil => cases h
  | cons s A ih =>
    simp only [List.cons_append, rdotS] at h ⊢
    split
    · rename_i hs; rw [if_pos hs] at h; exact h
    · rename_i hs; rw [if_neg hs] at h; exact ih h
theorem rdotL_congr {M : Mem} {A B : List Sl} {x : Int} {l : List Nat} (h : ∀ n ∈ l, rdotS M n x A = rdotS M n x B) : rdotL M A x l = rdotL M B x l := by
  induction l with
  | nil => rfl
  | cons n l ih =>
    simp only [rdotL]
    rw [h n (by simp), ih (fun m hm => h m (by simp [hm]))]
/-- Slivers of one sprite, one beside the other. -/
theorem paint_own {M : Mem} {n : Nat} {X : Nat} (hX : X < 256) : ∀ (S : List Sl) (d : Nat → Dt), (∀ s ∈ S, s.sp = (n : Int)) → S.Pairwise (fun s t => s.x + 8 ≤ t.x) → paintL M d S X = (rdotS M n X S).getD (d X) := by
  intro S
  induction S with
  | nil => intro d _ _; rfl
  | cons s S ih =>
    intro d hs hp
    rw [paintL_cons, ih _ (fun t ht => hs t (by simp [ht])) hp.tail, paint1_8 M s d X hX]
    simp only [rdotS, hits_of (hs s (by simp))]
    by_cases h : hitS M s X = true
    · rw [if_pos h, if_pos h]
      have hn : rdotS M n X S = none := rdotS_none fun t ht => by
        rw [hits_of (hs t (by simp [ht]))]
        have hx := (List.pairwise_cons.1 hp).1 t ht
        have := hitS_iff.1 h
        cases h2 : hitS M t X
        · rfl
        · have := hitS_iff.1 h2; omega
      rw [hn, hs s (by simp), Int.toNat_natCast]
      rfl
    · rw [if_neg h, if_neg h]
theorem slTo_sp {p : Sp} {n row : Int} {c : Nat} {s : Sl} (h : s ∈ slTo p n row c) : s.sp = n := by obtain ⟨k, _, rfl, _⟩ := mem_slTo h; rfl
theorem slTo_pairwise (p : Sp) (n row : Int) (c : Nat) : (slTo p n row c).Pairwise (fun s t => s.x + 8 ≤ t.x) := by
  induction c with
  | zero => simp [slTo]
  | succ c ih =>
    simp only [slTo]
    rw [List.pairwise_append]
    refine ⟨ih, by split <;> simp, fun s hs t ht => ?_⟩
    obtain ⟨k, hk, rfl, _⟩ := mem_slTo hs
    split at ht
    · simp only [List.mem_singleton] at ht; subst ht; simp only; omega
    · simp at ht
theorem pre_append {α : Type} {S A B : List α} (h : S <+: A ++ B) : S <+: A ∨ ∃ S', S = A ++ S' ∧ S' <+: B := by
  have e := List.prefix_iff_eq_take.1 h
  rw [List.take_append] at e
  by_cases hk : S.length ≤ A.length
  · left
    rw [show S.length - A.length = 0 by omega, List.take_zero, List.append_nil] at e
    rw [e]; exact List.take_prefix _ _
  · right
    rw [List.take_of_length_le (by omega)] at e
    exact ⟨_, e, List.take_prefix _ _⟩
theorem mem_slAll_sp {oa : Nat → Int} {r1 y : Int} {s : Sl} {l : List Nat} (h : s ∈ slAll oa r1 y l) : ∃ n ∈ l, s.sp = (n : Int) := by
  obtain ⟨n, hn, hs⟩ := mem_slAll h
  exact ⟨n, hn, slTo_sp hs⟩
/-- What is painted last is what the first sprite has. -/
theorem dots_eq (M : Mem) (y : Int) (X : Nat) (hX : X < 256) : ∀ (F : List Nat) (S : List Sl), F.Nodup → S <+: slAll M.oa M.r1 y F → paintL M (fun _ => Dt.none) S X = rdotL M S X F := by
  intro F
  induction F with
  | nil => intro S _ h; simp only [slAll, List.prefix_nil] at h; subst h; rfl
  | cons n l ih =>
    intro S hd h
    obtain ⟨hnl, hd'⟩ := List.nodup_cons.1 hd
    have hno : ∀ (A : List Sl), A <+: slAll M.oa M.r1 y l → rdotS M n X A = none := fun A hA => rdotS_none fun s hs => by
      obtain ⟨m, hm, e⟩ := mem_slAll_sp (hA.subset hs)
      exact hits_ne (by rw [e]; intro e2; exact hnl (by have : m = n := by omega
                                                        rw [← this]; exact hm))
    simp only [rdotL]
    rcases pre_append (show S <+: slAll M.oa M.r1 y l ++ slOf M.oa M.r1 y n from h) with hA | ⟨S', rfl, hS'⟩
    · rw [hno S hA]; exact ih S hd' hA
    · rw [rdotS_append _ _ _ _ _ (hno _ (List.prefix_refl _)), paintL_append, paint_own hX S' _ (fun s hs => slTo_sp (hS'.subset hs)) ((slTo_pairwise _ _ _ _).sublist hS'.sublist), ih _ hd' (List.prefix_refl _)]
      cases rdotS M n X S' with
      | some v => rfl
      | none =>
        refine rdotL_congr fun m hm => ?_
        show _ = rdotS M m X (slAll M.oa M.r1 y l ++ S')
        have hS0 : rdotS M m X S' = none := rdotS_none fun s hs => hits_ne (by
          rw [slTo_sp (hS'.subset hs)]; intro e; exact hnl (by have : n = m := by omega
                                                               rw [this]; exact hm))
        cases hA : rdotS M m X (slAll M.oa M.r1 y l) with
        | none => rw [rdotS_append _ _ _ _ _ hA, hS0]
        | some v => exact (rdotS_app_some hA).symm
theorem candTo_ix {oa : Nat → Int} {r1 : Int} {first : Nat} {y : Int} {n : Nat} : ∀ {k : Nat}, n ∈ candTo oa r1 first y k → ∃ j, j < k ∧ n = ixOf first j := by
  intro k
  induction k with
  | zero => simp [candTo]
  | succ k ih =>
    intro h
    simp only [candTo, List.mem_append] at h
    rcases h with h | h
    · obtain ⟨j, hj, e⟩ := ih h; exact ⟨j, by omega, e⟩
    · split at h
      · simp only [List.mem_singleton] at h; exact ⟨k, by omega, h⟩
      · simp at h
theorem candTo_nodup (oa : Nat → Int) (r1 : Int) (first : Nat) (y : Int) : ∀ k, k ≤ 128 → (candTo oa r1 first y k).Nodup := by
  intro k
  induction k with
  | zero => intro _; simp [candTo]
  | succ k ih =>
    intro hk
    simp only [candTo]
    rw [List.nodup_append]
    refine ⟨ih (by omega), by split <;> simp, fun a ha b hb => ?_⟩
    obtain ⟨j, hj, rfl⟩ := candTo_ix ha
    split at hb
    · simp only [List.mem_singleton] at hb; subst hb; unfold ixOf; omega
    · simp at hb
theorem found_nodup (M : Mem) (first : Nat) (y : Int) : (M.found first y).Nodup := (candTo_nodup _ _ _ _ 128 (by omega)).sublist (List.take_sublist _ _)
theorem pdots_eq (M : Mem) (first : Nat) (y : Int) (X : Nat) (hX : X < 256) : M.pdots first y X = M.rdots first y X := dots_eq M y X hX _ _ (found_nodup M first y) (List.take_prefix _ _)
end Go.Proofs.Ytoaecfaackkicaa
