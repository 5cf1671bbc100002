/- Small laws of the walk that every text of this seat uses: a slice of an array in memory, a drawn region with a tail, draws and stores, what lies below a block. No program in sight. -/
import Derived.Test.YtoaecfaackkicaaBits
import Derived.WalkKit
import Derived.WalkSpells
import Derived.WalkLawsBesides
import Derived.Deep.QuietTactic
import Derived.BigQuiet
import Derived.StillTailTactics
import Derived.Lib.Hide
import Derived.Deep.RegionHeld3
import Derived.Deep.DeepCutAuto
import Derived.Deep.LoopGhost
namespace Go.Proofs.Ytoaecfaackkicaa
open Go Go.RowKit

theorem run_sizeOf' {P : Program} {e s : Nat} (hs : (P.info? e).map (·.size) = some s) (w : World) : (sizeOf e).run P w = .ok s w := by
  cases hq : P.info? e with
  | none => simp [hq] at hs
  | some i => simp [sizeOf, typeInfo, hq] at hs ⊢; exact hs

/-- 'x[l:h]' of an array in memory, l below its end. -/
theorem sliceAt_arr {P : Program} {t n e s : Nat} (ht : P.underlying t = some (.array n e)) (hs : (P.info? e).map (·.size) = some s) (b off : Nat) (l h : Int) (kl kh : IntKind) (h0 : 0 ≤ l) (h1 : l ≤ h) (h2 : h ≤ n) (h3 : l < n) (w : World) :
    (Instr.sliceAt t (.pointer (some ⟨b, off, none⟩)) (some (.int kl l)) (some (.int kh h)) none).run P w = .ok (.slice (some ⟨b, off + l.toNat * s, none⟩) (h.toNat - l.toNat) (n - l.toNat)) w := by
  have hel : P.elem t = e := by simp [Program.elem, ht]
  have hal : P.arrayLen t = n := by simp [Program.arrayLen, ht]
  have h4 : n ≠ l.toNat := by omega
  rw [run_sliceAt_array_lh w t ⟨b, off, none⟩ (by rw [hel, hal]; exact ht) kl kh l h h0 h1 (by rw [hal]; exact h2), hel, run_sizeOf' hs, hal]
  simp [Result.andThen, slicedAt, h4, Addr.add]

theorem region_tail {P : Program} {id : Nat} {Q : Exit → Act → World → Prop} {a : Act} {w : World} {l : List Oper} (n : Nat) (hm : P.follows .mixedOrders = true) (hB : Region.lexTailB .any l.toArray n = true)
    (h : wpStill P l.toArray w.drew (fun a' => wpList P l.toArray Q (l.drop n) a' w.drew) (l.take n) a) : (Code.region id l.toArray true).wp P Q a w :=
  wp_region_still_tail n hm hB h

@[go_sem] theorem setCell_drewN (w : World) (n : Nat) (a : Addr) (v : Value) : (w.drewN n).setCell a v = (w.setCell a v).drewN n := rfl
@[go_sem] theorem alloc_drewN (w : World) (n : Nat) (o : Obj) : (w.drewN n).alloc o = (w.alloc o).drewN n := rfl

theorem below_drewN' {B : Nat} {w w' : World} (h : Below B w w') (n : Nat) : Below B w (w'.drewN n) := ⟨h.os, h.tape, h.output, h.size, h.block⟩

theorem bcell {W w1 : World} (hb : Below W.heap.size W w1) : (∀ b o, b < W.heap.size → w1.cell? ⟨b, o, none⟩ = W.cell? ⟨b, o, none⟩) ∧ (∀ b o, b < W.heap.size → w1.frozen? ⟨b, o, none⟩ = W.frozen? ⟨b, o, none⟩) :=
  ⟨fun b o h => hb.cell (p := ⟨b, o, none⟩) h, fun b o h => hb.frozen (p := ⟨b, o, none⟩) h⟩
theorem tmod_small (n m : Int) (h : -m < n) (h' : n < m) : n.tmod m = n := by
  by_cases hn : 0 ≤ n
  · exact Int.tmod_eq_of_lt hn h'
  · have e : n = -(-n) := by omega
    rw [e, Int.neg_tmod, Int.tmod_eq_of_lt (by omega) (by omega)]

theorem ret_i {k : IntKind} {a b : Int} (h : a = b) : Ending.returned (.int k a) = Ending.returned (.int k b) := by rw [h]
theorem ret_ii {j k : IntKind} {a b c d : Int} (h : a = b) (h' : c = d) : Ending.returned (.tuple #[.int j a, .int k c]) = Ending.returned (.tuple #[.int j b, .int k d]) := by rw [h, h']
theorem ret_ib {k : IntKind} {a b : Int} {c d : Bool} (h : a = b) (h' : c = d) : Ending.returned (.tuple #[.int k a, .bool c]) = Ending.returned (.tuple #[.int k b, .bool d]) := by rw [h, h']
theorem ret_b {a b : Bool} (h : a = b) : Ending.returned (.bool a) = Ending.returned (.bool b) := by rw [h]

end Go.Proofs.Ytoaecfaackkicaa
