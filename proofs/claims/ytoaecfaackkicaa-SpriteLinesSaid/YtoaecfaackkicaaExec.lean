/- Operations that look at the world or that hang on a test: what each does. No program in sight. -/
import Derived.Test.YtoaecfaackkicaaVcg
import Derived.LoopN
import Derived.IntWalk
namespace Go.Proofs.Ytoaecfaackkicaa
open Go Go.RowKit

section
variable {P : Program} {w : World} {o : Oper} {ρ : Operand → Value}
def flatD (d : TypeDesc) : Bool := match d with | .struct _ | .array _ _ => false | _ => true
theorem run_loadVar_cell {t b off : Nat} {d : TypeDesc} {v : Value} (hu : P.underlying t = some d) (hd : flatD d = true) (hc : w.cell? ⟨b, off, none⟩ = some v) : (loadVar t ⟨b, off, none⟩).run P w = .ok v w := by
  unfold loadVar
  rw [Sem.run_bind, run_isAgg hu w]
  cases d <;> first | (simp [flatD] at hd; done) | (simp [load, Sem.run, hc]; done)
theorem ex_load {t b off : Nat} {x : Operand} {d : TypeDesc} {v : Value} (ho : o.op = .load t x) (hx : ρ x = .pointer (some ⟨b, off, none⟩)) (hu : P.underlying t = some d) (hd : flatD d = true) (hc : w.cell? ⟨b, off, none⟩ = some v) :
    (execOp ρ o).run P w = .ok (.value v) w := by
  unfold execOp
  rw [ho]
  simp only [hx, Instr.loadAt, Instr.sureAddr]
  have h := run_loadVar_cell (P := P) (w := w) hu hd hc
  simp [Sem.run_bind, h]
theorem run_storeVar_cell {t b off : Nat} {v u : Value} (hi : (P.info? t).map (·.size) = some 1) (hv : v.oneCell' = true) (hc : w.cell? ⟨b, off, none⟩ = some u) (hf : w.frozen? ⟨b, off, none⟩ = false) : (storeVar t ⟨b, off, none⟩ v).run P w = .ok () (w.setCell ⟨b, off, none⟩ v) := by
  have hcs : v.cells = #[v] := by cases v <;> simp_all [Value.oneCell', Value.cells]
  have hs := run_store_ok (P := P) hv hc hf
  simp only [storeVar, Sem.run_bind, run_sizeOf' hi, Result.andThen_ok, hcs]
  rw [if_neg (by simp)]
  simp only [storeCells, Sem.run_bind]
  rw [show (⟨b, off, none⟩ : Addr).add 0 = ⟨b, off, none⟩ by unfold Addr.add; split <;> simp_all, hs]
  simp
theorem ex_store {t b off : Nat} {x y : Operand} {v u : Value} (ho : o.op = .store t x y) (hx : ρ x = .pointer (some ⟨b, off, none⟩)) (hy : ρ y = v) (hi : (P.info? t).map (·.size) = some 1) (hv : v.oneCell' = true) (hc : w.cell? ⟨b, off, none⟩ = some u) (hf : w.frozen? ⟨b, off, none⟩ = false) :
    (execOp ρ o).run P w = .ok .skip (w.setCell ⟨b, off, none⟩ v) := by
  unfold execOp
  rw [ho]
  simp only [hx, hy, Instr.storeAt, Instr.sureAddr]
  have h := run_storeVar_cell (P := P) (w := w) hi hv hc hf
  simp [Sem.run_bind, h]
theorem ex_store_obj {b t n m ty off : Nat} {c d : Nat → Value} {x y : Operand} (ho : o.op = .store ty x y) (hx : ρ x = .pointer (some ⟨b, off, none⟩)) (hy : ρ y = .agg (blk m d)) (h : ObjAt w b t n c) (hm : off + m ≤ n) (hi : (P.info? ty).map (·.size) = some m) (hd : ∀ i, i < m → (d i).oneCell' = true) :
    ∃ w', (execOp ρ o).run P w = .ok .skip w' ∧ ObjAt w' b t n (fun i => if off ≤ i ∧ i < off + m then d (i - off) else c i) ∧ Chg b w w' := by
  obtain ⟨w', hr, ho', hc⟩ := run_storeVar_obj (P := P) h d off hm hi hd
  refine ⟨w', ?_, ho', hc⟩
  unfold execOp
  rw [ho]
  simp only [hx, hy, Instr.storeAt, Instr.sureAddr]
  simp [Sem.run_bind, hr]
theorem ex_idx_slice {t e s b off len cap : Nat} {x i : Operand} {k : IntKind} {j : Int} (ho : o.op = .indexAddr t x i) (hu : P.underlying t = some (.slice e)) (hs : (P.info? e).map (·.size) = some s) (hx : ρ x = .slice (some ⟨b, off, none⟩) len cap) (hi : ρ i = .int k j) (h0 : 0 ≤ j) (h1 : j < len) :
    (execOp ρ o).run P w = .ok (.value (.pointer (some ⟨b, off + j.toNat * s, none⟩))) w := by
  unfold execOp
  rw [ho]
  simp only [hx, hi, Instr.indexAt, asIntOf, Sem.run_bind, run_underlying hu, Result.andThen_ok, Sem.run_pure]
  rw [if_pos ⟨h0, h1⟩]
  simp [run_sizeOf' hs, Addr.add]
theorem ex_idx_arr {t e s b off len : Nat} {x i : Operand} {k : IntKind} {j : Int} (ho : o.op = .indexAddr t x i) (hu : P.underlying t = some (.array len e)) (hs : (P.info? e).map (·.size) = some s) (hx : ρ x = .pointer (some ⟨b, off, none⟩)) (hi : ρ i = .int k j) (h0 : 0 ≤ j) (h1 : j < len) :
    (execOp ρ o).run P w = .ok (.value (.pointer (some ⟨b, off + j.toNat * s, none⟩))) w := by
  unfold execOp
  rw [ho]
  simp only [hx, hi, Instr.indexAt, asIntOf, Sem.run_bind, run_underlying hu, Result.andThen_ok, Sem.run_pure, Instr.sureAddr]
  rw [if_pos ⟨h0, h1⟩]
  simp [run_sizeOf' hs, Addr.add]
theorem ex_rem {t u : Nat} {x y : Operand} {k : IntKind} {a b r : Int} (ho : o.op = .binOp .rem t x y u) (hx : ρ x = .int k a) (hy : ρ y = .int k b) (hb : b ≠ 0) (hr : a.tmod b = r) : (execOp ρ o).run P w = .ok (.value (.int k r)) w := by
  subst hr
  unfold execOp
  rw [ho]
  simp [hx, hy, eqGuard, binOp, Op.intDiv, hb]
theorem ex_quo {t u : Nat} {x y : Operand} {k : IntKind} {a b r : Int} (ho : o.op = .binOp .quo t x y u) (hx : ρ x = .int k a) (hy : ρ y = .int k b) (hb : b ≠ 0) (hr : k.wrap (a.tdiv b) = r) : (execOp ρ o).run P w = .ok (.value (.int k r)) w := by
  subst hr
  unfold execOp
  rw [ho]
  simp [hx, hy, eqGuard, binOp, Op.intDiv, hb]
/-- What hangs on the frame alone, under another spelling. -/
theorem ex_as {v v' : Value} (h : pureOf P (execOp ρ o) = some (.value v)) (e : v = v') : (execOp ρ o).run P w = .ok (.value v') w := by subst e; exact pureOf_run _ h w
theorem cells_agg (cs : Array Value) : (Value.agg cs).cells = cs := rfl
theorem ex_box {t : Nat} {x : Operand} {v : Value} {cs : Array Value} (ho : o.op = .box t x) (hx : ρ x = v) (hc : v.cells = cs) : (execOp ρ o).run P w = .ok (.value (.pointer (some ⟨w.heap.size, 0, none⟩))) (w.alloc (.cells cs t)) := by
  subst hc
  unfold execOp
  rw [ho]
  simp only [hx, Instr.box, newVar]
  rfl
theorem ex_alloc {t : Nat} {z : Value} {cs : Array Value} (ho : o.op = .alloc t) (hz : (zeroValue t).run P w = .ok z w) (hc : z.cells = cs) : (execOp ρ o).run P w = .ok (.value (.pointer (some ⟨w.heap.size, 0, none⟩))) (w.alloc (.cells cs t)) := by
  subst hc
  unfold execOp
  rw [ho]
  simp only [Instr.alloc, Sem.run_bind, hz, Result.andThen_ok]
  rfl
theorem ex_build {t : Nat} {parts : Array (Nat × Operand)} {ps : List (Nat × Value)} {cs : Array Value} (ho : o.op = .build t parts) (hp : (parts.map fun (i, x) => (i, ρ x)).toList = ps) (hb : P.built t ps = some cs) : (execOp ρ o).run P w = .ok (.value (.agg cs)) w := by
  subst hp
  unfold execOp
  rw [ho]
  simp only [Sem.run_bind, run_build w t _ cs hb, Result.andThen_ok]
  rfl
theorem ex_idx_slice' {t e s b off len cap off' : Nat} {x i : Operand} {k : IntKind} {j : Int} (ho : o.op = .indexAddr t x i) (hu : P.underlying t = some (.slice e)) (hs : (P.info? e).map (·.size) = some s) (hx : ρ x = .slice (some ⟨b, off, none⟩) len cap) (hi : ρ i = .int k j) (h0 : 0 ≤ j) (h1 : j < len) (hoff : off + j.toNat * s = off') :
    (execOp ρ o).run P w = .ok (.value (.pointer (some ⟨b, off', none⟩))) w := hoff ▸ ex_idx_slice ho hu hs hx hi h0 h1
theorem ex_idx_arr' {t e s b off len off' : Nat} {x i : Operand} {k : IntKind} {j : Int} (ho : o.op = .indexAddr t x i) (hu : P.underlying t = some (.array len e)) (hs : (P.info? e).map (·.size) = some s) (hx : ρ x = .pointer (some ⟨b, off, none⟩)) (hi : ρ i = .int k j) (h0 : 0 ≤ j) (h1 : j < len) (hoff : off + j.toNat * s = off') :
    (execOp ρ o).run P w = .ok (.value (.pointer (some ⟨b, off', none⟩))) w := hoff ▸ ex_idx_arr ho hu hs hx hi h0 h1
end

theorem built_blk {P : Program} {t n : Nat} {it : TypeInfo} {fields : Array Field} {places : List (Nat × Nat)} {f : Nat → Value} (hi : P.info? t = some it) (hu : P.underlying t = some (.struct fields))
    (hp : fields.toList.mapM (fun x => (P.info? x.type).map fun i => (x.offset, i.size)) = some places) (hn : (zcells it).length = n) (hpos : 0 < n) (hc : chkAll f (zcells it) 0 = true) (parts : List (Nat × Value)) :
    P.built t parts = Instr.fill (places.toArray[·]?) (blk n f) parts := by
  unfold zcells at hn hc
  have hz : it.zero = some (.agg (blk n f)) := by
    cases hz : it.zero with
    | none => rw [hz] at hn; simp at hn; omega
    | some v =>
      cases v with
      | agg cs =>
        rw [hz] at hn hc
        congr 2
        exact eq_blk (by simpa using hn) fun i hi => by
          have := chkAll_spec _ 0 hc i (by simp only [hn]; exact hi)
          simpa using this
      | _ => rw [hz] at hn; simp at hn; omega
  unfold Program.built
  rw [hi, hu]
  simp only [hz, hp]
  rfl
/-! ### A loop whose rounds are counted -/
theorem v_for {P : Program} {c : Code} {Q : Exit → Act → World → Prop} {a : Act} {w : World} (I : Nat → Act → World → Prop) (N k0 : Nat) (hk : k0 ≤ N) (h0 : I k0 a w)
    (round : ∀ k a w, k ≤ N → I k a w → c.wp P (Exit.then (fun a' w' => ∃ k', k < k' ∧ k' ≤ N ∧ I k' a' w') Q) a w) : (Code.loop c).wp P Q a w := by
  refine wp_loop_rounds (N - k0 + 1) ?_
  have key : ∀ m k a w, N - k ≤ m → k ≤ N → I k a w → Code.rounds P c Q (m + 1) a w := by
    intro m
    induction m with
    | zero =>
      intro k a w hm hk hI
      rw [rounds_succ]
      refine Code.wp_mono (fun e a' w' q => ?_) (round k a w hk hI)
      cases e with
      | normal => obtain ⟨k', h1, h2, -⟩ := q; omega
      | _ => exact q
    | succ m ih =>
      intro k a w hm hk hI
      rw [rounds_succ]
      refine Code.wp_mono (fun e a' w' q => ?_) (round k a w hk hI)
      cases e with
      | normal => obtain ⟨k', h1, h2, h3⟩ := q; exact ih k' a' w' (by omega) h2 h3
      | _ => exact q
  exact key _ _ _ _ (Nat.le_refl _) hk h0
theorem wrap_u8 (x : Int) : IntKind.wrap .u8 x = x % 256 := rfl
theorem wrap_u16 (x : Int) : IntKind.wrap .u16 x = x % 65536 := rfl
theorem wrap_u32 (x : Int) : IntKind.wrap .u32 x = x % 4294967296 := rfl
theorem wrap_u64 (x : Int) : IntKind.wrap .u64 x = x % 18446744073709551616 := rfl
end Go.Proofs.Ytoaecfaackkicaa
