/- Steps that turn the world, with new worlds and new blocks under names. No program in sight. -/
import Derived.Test.YtoaecfaackkicaaExec
namespace Go.Proofs.Ytoaecfaackkicaa
open Go Go.RowKit

def arrC (cs : Array Value) : Nat → Value := fun i => cs.getD i undef
theorem arr_blk {cs : Array Value} {m : Nat} (h : cs.size = m) : cs = blk m (arrC cs) := eq_blk h fun i hi => by
  rw [Array.getElem?_eq_getElem (by omega)]; simp [arrC, h, hi]
theorem objAt_new (w : World) (t m : Nat) (c : Nat → Value) {cs : Array Value} (h : cs = blk m c) : ObjAt (w.alloc (.cells cs t)) w.heap.size t m c := by subst h; exact heap_alloc_new w _
theorem below_new (w : World) (o : Obj) : Below w.heap.size w (w.alloc o) := (Below.refl _ w).alloc (Nat.le_refl _) o
/-- Cells by a function, read as a list. -/
theorem ex_load_arr {P : Program} {w : World} {o : Oper} {ρ : Operand → Value} {b t n m ty off : Nat} {c : Nat → Value} {cs : Array Value} (x : Operand) (ho : o.op = .load ty x)
    (hx : ρ x = .pointer (some ⟨b, off, none⟩)) (h : ObjAt w b t n c) (hm : off + m ≤ n) (hi : (P.info? ty).map (·.size) = some m) {d : TypeDesc} (hu : P.underlying ty = some d)
    (hd : (match d with | .struct _ | .array _ _ => true | _ => false) = true) (hs : cs.size = m) (hc : ∀ i, i < m → c (off + i) = arrC cs i) : (execOp ρ o).run P w = .ok (.value (.agg cs)) w := by
  rw [exec_load_obj x ho hx h hm hi hu hd]
  have e : (blk m fun j => c (off + j)) = cs := (blk_congr hc).trans (arr_blk hs).symm
  rw [e]

section
variable {P : Program} {ops : Array Oper} {Q : Exit → Act → World → Prop} {rest : List Oper} {o : Oper} {n : Nat} {L : Env} {a : Act} {w : World}
theorem l_box (d m : Nat) (c : Nat → Value) {t : Nat} {x : Operand} {v : Value} (K : Knows n L a) (hs : stOk n ops L o d = true) (ho : o.op = .box t x) (hx : envL L x = v) (hc : v.cells = blk m c)
    (h : ∀ b w', b = w.heap.size → Below w.heap.size w w' → ObjAt w' b t m c → ∀ a', Knows n ((d, .pointer (some ⟨b, 0, none⟩)) :: L) a' → wpList P ops Q rest a' w') : wpList P ops Q (o :: rest) a w :=
  l_val d _ K hs (ex_box ho hx rfl) fun a' K' => h _ _ rfl (below_new w _) (objAt_new w t m c hc) a' K'
theorem l_alloc (d m : Nat) (c : Nat → Value) {t : Nat} {z : Value} (K : Knows n L a) (hs : stOk n ops L o d = true) (ho : o.op = .alloc t) (hz : (zeroValue t).run P w = .ok z w) (hc : z.cells = blk m c)
    (h : ∀ b w', b = w.heap.size → Below w.heap.size w w' → ObjAt w' b t m c → ∀ a', Knows n ((d, .pointer (some ⟨b, 0, none⟩)) :: L) a' → wpList P ops Q rest a' w') : wpList P ops Q (o :: rest) a w :=
  l_val d _ K hs (ex_alloc ho hz rfl) fun a' K' => h _ _ rfl (below_new w _) (objAt_new w t m c hc) a' K'
/-- A store of one cell into an object. -/
theorem l_store {b t off k ty : Nat} {c : Nat → Value} {x y : Operand} {v : Value} (K : Knows n L a) (hs : unOk ops L o = true) (ho : o.op = .store ty x y) (hx : envL L x = .pointer (some ⟨b, off, none⟩)) (hy : envL L y = v)
    (hi : (P.info? ty).map (·.size) = some 1) (hv : v.oneCell' = true) (h0 : ObjAt w b t k c) (hm : off < k) (h : ∀ w', Chg b w w' → ObjAt w' b t k (upd c off v) → wpList P ops Q rest a w') : wpList P ops Q (o :: rest) a w :=
  l_unit K hs (ex_store ho hx hy hi hv (h0.cell hm) (h0.frozen off)) (h _ (Chg.setCell b off w v) (h0.set off v))
/-- A store of a great value into an object. -/
theorem l_store_obj {b t off k m ty : Nat} {c d : Nat → Value} {x y : Operand} (K : Knows n L a) (hs : unOk ops L o = true) (ho : o.op = .store ty x y) (hx : envL L x = .pointer (some ⟨b, off, none⟩)) (hy : envL L y = .agg (blk m d))
    (hi : (P.info? ty).map (·.size) = some m) (hv : ∀ i, i < m → (d i).oneCell' = true) (h0 : ObjAt w b t k c) (hm : off + m ≤ k) (h : ∀ w', Chg b w w' → ObjAt w' b t k (fun i => if off ≤ i ∧ i < off + m then d (i - off) else c i) → wpList P ops Q rest a w') : wpList P ops Q (o :: rest) a w := by
  obtain ⟨w', hr, ho', hc⟩ := ex_store_obj (P := P) (ρ := envL L) ho hx hy h0 hm hi hv
  exact l_unit K hs hr (h w' hc ho')
/-- A store of a great value that fills an object. -/
theorem l_store_full {b t m ty : Nat} {c d : Nat → Value} {x y : Operand} (K : Knows n L a) (hs : unOk ops L o = true) (ho : o.op = .store ty x y) (hx : envL L x = .pointer (some ⟨b, 0, none⟩)) (hy : envL L y = .agg (blk m d))
    (hi : (P.info? ty).map (·.size) = some m) (hv : ∀ i, i < m → (d i).oneCell' = true) (h0 : ObjAt w b t m c) (h : ∀ w', Chg b w w' → ObjAt w' b t m d → wpList P ops Q rest a w') : wpList P ops Q (o :: rest) a w :=
  l_store_obj K hs ho hx hy hi hv h0 (by omega) fun w' hc ho' => h w' hc (ho'.congr fun i hi => by rw [if_pos (by omega), Nat.sub_zero])
theorem l_store_arr {b t m ty : Nat} {c : Nat → Value} {cs : Array Value} {x y : Operand} (K : Knows n L a) (hs : unOk ops L o = true) (ho : o.op = .store ty x y) (hx : envL L x = .pointer (some ⟨b, 0, none⟩)) (hy : envL L y = .agg cs) (hm : cs.size = m)
    (hi : (P.info? ty).map (·.size) = some m) (hv : cs.all (·.oneCell') = true) (h0 : ObjAt w b t m c) (h : ∀ w', Chg b w w' → ObjAt w' b t m (arrC cs) → wpList P ops Q rest a w') : wpList P ops Q (o :: rest) a w :=
  l_store_full K hs ho hx (hy.trans (congrArg Value.agg (arr_blk hm))) hi (fun i hi => by
    have hi' : i < cs.size := by omega
    have := (Array.all_eq_true.1 hv) i hi'
    have e : arrC cs i = cs[i] := by simp [arrC, hi']
    rw [e]; exact this) h0 h

/-! ### .. in a region that draws -/
variable {md : Region.Mode} {m : Nat} {S : World → Prop} {listed : Array Bool} {fuel i : Nat} {oi : Oper}
theorem c_box (d k : Nat) (c : Nat → Value) {t : Nat} {x : Operand} {v : Value} (K : Knows n L a) (hi : ops[i]? = some oi) (hs : stOk n ops L oi d = true) (ho : oi.op = .box t x) (hx : envL L x = v) (hc : v.cells = blk k c)
    (hS : ∀ b w', b = w.heap.size → Below w.heap.size w w' → ObjAt w' b t k c → (listed.setIfInBounds i true).getD m false = true ∨ S w')
    (h : ∀ b w', b = w.heap.size → Below w.heap.size w w' → ObjAt w' b t k c → ∀ a', Knows n ((d, .pointer (some ⟨b, 0, none⟩)) :: L) a' → wpAnyL P md ops Q m S fuel (listed.setIfInBounds i true) a' w') : Comes1 P md ops Q m S fuel listed i a w :=
  c_val d _ K hi hs (ex_box ho hx rfl) (hS _ _ rfl (below_new w _) (objAt_new w t k c hc)) fun a' K' => h _ _ rfl (below_new w _) (objAt_new w t k c hc) a' K'
theorem c_alloc (d k : Nat) (c : Nat → Value) {t : Nat} {z : Value} (K : Knows n L a) (hi : ops[i]? = some oi) (hs : stOk n ops L oi d = true) (ho : oi.op = .alloc t) (hz : (zeroValue t).run P w = .ok z w) (hc : z.cells = blk k c)
    (hS : ∀ b w', b = w.heap.size → Below w.heap.size w w' → ObjAt w' b t k c → (listed.setIfInBounds i true).getD m false = true ∨ S w')
    (h : ∀ b w', b = w.heap.size → Below w.heap.size w w' → ObjAt w' b t k c → ∀ a', Knows n ((d, .pointer (some ⟨b, 0, none⟩)) :: L) a' → wpAnyL P md ops Q m S fuel (listed.setIfInBounds i true) a' w') : Comes1 P md ops Q m S fuel listed i a w :=
  c_val d _ K hi hs (ex_alloc ho hz rfl) (hS _ _ rfl (below_new w _) (objAt_new w t k c hc)) fun a' K' => h _ _ rfl (below_new w _) (objAt_new w t k c hc) a' K'
theorem c_store {b t off k ty : Nat} {c : Nat → Value} {x y : Operand} {v : Value} (K : Knows n L a) (hi' : ops[i]? = some oi) (hs : unOk ops L oi = true) (ho : oi.op = .store ty x y) (hx : envL L x = .pointer (some ⟨b, off, none⟩)) (hy : envL L y = v)
    (hi : (P.info? ty).map (·.size) = some 1) (hv : v.oneCell' = true) (h0 : ObjAt w b t k c) (hm : off < k) (hS : ∀ w', Chg b w w' → (listed.setIfInBounds i true).getD m false = true ∨ S w')
    (h : ∀ w', Chg b w w' → ObjAt w' b t k (upd c off v) → wpAnyL P md ops Q m S fuel (listed.setIfInBounds i true) a w') : Comes1 P md ops Q m S fuel listed i a w :=
  c_unit K hi' hs (ex_store ho hx hy hi hv (h0.cell hm) (h0.frozen off)) (hS _ (Chg.setCell b off w v)) (h _ (Chg.setCell b off w v) (h0.set off v))
end
end Go.Proofs.Ytoaecfaackkicaa
