/- A value that is compared with itself: structs and arrays of numbers and truths. No program in sight. -/
import Derived.ChangeKeysEq
import Derived.Test.YtoaecfaackkicaaObj
namespace Go.Proofs.Ytoaecfaackkicaa
open Go Go.RowKit

/-- Compared with itself v is the same, m types deep. -/
def SelfEq (P : Program) (m t : Nat) (v : Value) : Prop := ∀ d w, m ≤ d → (Op.equalIn d t v v).run P w = .ok true w
theorem SelfEq.mono {P : Program} {m m' t : Nat} {v : Value} (h : SelfEq P m t v) (hm : m ≤ m') : SelfEq P m' t v := fun d w hd => h d w (by omega)
theorem selfEq_int {P : Program} {t : Nat} {k k' : IntKind} {a : Int} (h : P.underlying t = some (.int k')) : SelfEq P 1 t (.int k a) := fun d w hd => by
  obtain ⟨e, rfl⟩ := Nat.exists_eq_add_of_le hd
  rw [Nat.add_comm, run_equalIn_int w e t k k' a a h]; simp
theorem selfEq_bool {P : Program} {t : Nat} {a : Bool} (h : P.underlying t = some .bool) : SelfEq P 1 t (.bool a) := fun d w hd => by
  obtain ⟨e, rfl⟩ := Nat.exists_eq_add_of_le hd
  rw [Nat.add_comm, run_equalIn_bool w e t a a h]; simp
theorem selfEq_items {P : Program} {m e c : Nat} {xs : Array Value} (d : Nat) (hd : m ≤ d) : ∀ (is : List Nat), (∀ i ∈ is, ∃ v, (∀ w, (part e xs (i * c)).run P w = .ok v w) ∧ SelfEq P m e v) → ∀ w, (Op.eqItems d e c xs xs is).run P w = .ok true w
  | [], _, w => by simp [Op.eqItems]
  | i :: is, h, w => by
    obtain ⟨v, hv, hs⟩ := h i (by simp)
    simp only [Op.eqItems, Sem.run_bind, hv, Result.andThen_ok, hs d _ hd]
    simpa using selfEq_items d hd is (fun j hj => h j (by simp [hj])) w
theorem selfEq_array {P : Program} {m t e n : Nat} {ti : TypeInfo} {xs : Array Value} (hu : P.underlying t = some (.array n e)) (hi : P.info? e = some ti)
    (h : ∀ i, i < n → ∃ v, (∀ w, (part e xs (i * P.cellsOf e)).run P w = .ok v w) ∧ SelfEq P m e v) : SelfEq P (m + 1) t (.agg xs) := fun d w hd => by
  obtain ⟨e', rfl⟩ := Nat.exists_eq_add_of_le hd
  rw [show m + 1 + e' = (m + e') + 1 by omega, run_equalIn_array w _ xs xs hu hi]
  exact selfEq_items _ (by omega) _ (fun i hi => h i (List.mem_range.1 hi)) w
theorem selfEq_fields {P : Program} {m : Nat} {xs : Array Value} (d : Nat) (hd : m ≤ d) : ∀ (fs : List Field), (∀ f ∈ fs, ∃ v, (∀ w, (part f.type xs f.offset).run P w = .ok v w) ∧ SelfEq P m f.type v) → ∀ w, (Op.eqFields d xs xs fs).run P w = .ok true w
  | [], _, w => by simp [Op.eqFields]
  | f :: fs, h, w => by
    obtain ⟨v, hv, hs⟩ := h f (by simp)
    have ih := selfEq_fields d hd fs (fun j hj => h j (by simp [hj])) w
    simp only [Op.eqFields]
    split
    · simp only [Sem.run_bind, hv, Result.andThen_ok, hs d _ hd]
      simpa using ih
    · exact ih
theorem selfEq_struct {P : Program} {m t : Nat} {fs : Array Field} {xs : Array Value} (hu : P.underlying t = some (.struct fs)) (hp : P.stoodInHeld t = false)
    (h : ∀ f ∈ fs.toList, ∃ v, (∀ w, (part f.type xs f.offset).run P w = .ok v w) ∧ SelfEq P m f.type v) : SelfEq P (m + 1) t (.agg xs) := fun d w hd => by
  obtain ⟨e', rfl⟩ := Nat.exists_eq_add_of_le hd
  have hf : P.fieldsOf t = fs := by unfold Program.fieldsOf; rw [hu]
  rw [show m + 1 + e' = (m + e') + 1 by omega, run_equalIn_struct w _ t xs xs (by rw [hf]; exact hu) hp, hf]
  exact selfEq_fields _ (by omega) _ h w

theorem run_isAgg {P : Program} {t : Nat} {d : TypeDesc} (hu : P.underlying t = some d) (w : World) : (isAgg t).run P w = .ok (match d with | .struct _ | .array _ _ => true | _ => false) w := by
  unfold isAgg
  rw [Sem.run_bind, run_underlying hu w]
  cases d <;> rfl
theorem part_leaf {P : Program} {t off : Nat} {d : TypeDesc} {cs : Array Value} {v : Value} (hu : P.underlying t = some d) (hd : (match d with | .struct _ | .array _ _ => true | _ => false) = false) (hc : cs[off]? = some v) (w : World) : (part t cs off).run P w = .ok v w := by
  unfold part
  rw [Sem.run_bind, run_isAgg hu w, hd]
  simp [hc]
theorem part_agg {P : Program} {t off s : Nat} {d : TypeDesc} {cs : Array Value} (hu : P.underlying t = some d) (hd : (match d with | .struct _ | .array _ _ => true | _ => false) = true) (hs : (P.info? t).map (·.size) = some s) (w : World) : (part t cs off).run P w = .ok (.agg (cs.extract off (off + s))) w := by
  unfold part
  rw [Sem.run_bind, run_isAgg hu w, hd]
  simp [run_sizeOf' hs]
/-- A part of a row of cells that is a number or a truth. -/
theorem self_leaf {P : Program} {m t off n : Nat} {d : TypeDesc} {c : Nat → Value} (hu : P.underlying t = some d) (hd : (match d with | .struct _ | .array _ _ => true | _ => false) = false) (ho : off < n) (hs : SelfEq P m t (c off)) :
    ∃ v, (∀ w, (part t (blk n c) off).run P w = .ok v w) ∧ SelfEq P m t v := ⟨c off, part_leaf hu hd (by rw [blk_get, if_pos ho]), hs⟩
theorem self_part {P : Program} {m t off n s : Nat} {d : TypeDesc} {c : Nat → Value} (hu : P.underlying t = some d) (hd : (match d with | .struct _ | .array _ _ => true | _ => false) = true) (hi : (P.info? t).map (·.size) = some s) (ho : off + s ≤ n) (hs : SelfEq P m t (.agg (blk s fun i => c (off + i)))) :
    ∃ v, (∀ w, (part t (blk n c) off).run P w = .ok v w) ∧ SelfEq P m t v := ⟨_, fun w => by rw [part_agg hu hd hi w, blk_extract _ _ _ _ ho], hs⟩
/-- An array of numbers. -/
theorem selfEq_ints {P : Program} {t e n : Nat} {k k' : IntKind} {ti : TypeInfo} {c : Nat → Value} (hu : P.underlying t = some (.array n e)) (he : P.underlying e = some (.int k')) (hi : P.info? e = some ti) (hs : P.cellsOf e = 1) (hc : ∀ i, i < n → ∃ a, c i = .int k a) :
    SelfEq P 2 t (.agg (blk n c)) := selfEq_array hu hi fun i hi' => by
  rw [hs, Nat.mul_one]
  obtain ⟨a, ha⟩ := hc i hi'
  exact self_leaf he rfl hi' (by rw [ha]; exact selfEq_int he)

theorem run_eql_self {P : Program} {m t : Nat} {cs : Array Value} (h : SelfEq P m t (.agg cs)) (hm : m ≤ 10000) (w : World) : (binOp .eql t (.agg cs) (.agg cs)).run P w = .ok (.bool true) w := by
  rw [run_eql_struct, h 10000 w hm]; rfl
theorem run_neq_self {P : Program} {m t : Nat} {cs : Array Value} (h : SelfEq P m t (.agg cs)) (hm : m ≤ 10000) (w : World) : (binOp .neq t (.agg cs) (.agg cs)).run P w = .ok (.bool false) w := by
  rw [run_neq_struct, h 10000 w hm]; rfl
/-- '!=' of a value with itself, as an operation. -/
theorem exec_neq_self {P : Program} {m t t2 : Nat} {cs : Array Value} (h : SelfEq P m t (.agg cs)) (hm : m ≤ 10000) (hg : P.eqGuardType P.depth t = false) {o : Oper} {ρ : Operand → Value} (x y : Operand) (ho : o.op = .binOp .neq t x y t2) (hx : ρ x = .agg cs) (hy : ρ y = .agg cs) (w : World) :
    (execOp ρ o).run P w = .ok (.value (.bool false)) w := by
  unfold execOp
  rw [ho]
  simp only [hx, hy, Sem.run_bind, run_eqGuard_agg w .neq t x y cs cs hg, Result.andThen_ok, run_neq_self h hm w]
  rfl
theorem exec_eql_self {P : Program} {m t t2 : Nat} {cs : Array Value} (h : SelfEq P m t (.agg cs)) (hm : m ≤ 10000) (hg : P.eqGuardType P.depth t = false) {o : Oper} {ρ : Operand → Value} (x y : Operand) (ho : o.op = .binOp .eql t x y t2) (hx : ρ x = .agg cs) (hy : ρ y = .agg cs) (w : World) :
    (execOp ρ o).run P w = .ok (.value (.bool true)) w := by
  unfold execOp
  rw [ho]
  simp only [hx, hy, Sem.run_bind, run_eqGuard_agg w .eql t x y cs cs hg, Result.andThen_ok, run_eql_self h hm w]
  rfl
theorem exec_load_obj {P : Program} {w : World} {o : Oper} {ρ : Operand → Value} {b t n m ty off : Nat} {c : Nat → Value} (x : Operand) (ho : o.op = .load ty x)
    (hx : ρ x = .pointer (some ⟨b, off, none⟩)) (h : ObjAt w b t n c) (hm : off + m ≤ n) (hi : (P.info? ty).map (·.size) = some m) {d : TypeDesc} (hu : P.underlying ty = some d)
    (hd : (match d with | .struct _ | .array _ _ => true | _ => false) = true) : (execOp ρ o).run P w = .ok (.value (.agg (blk m fun j => c (off + j)))) w := by
  have hr := run_loadVar_obj (P := P) h off m ty d hu hd hi hm
  unfold execOp
  rw [ho]
  simp only [hx, Instr.loadAt, Instr.sureAddr]
  simp [Sem.run_bind, hr]
/-- An operation whose value is known, in a walk. -/
theorem wpList_known {P : Program} {ops : Array Oper} {Q : Exit → Act → World → Prop} {a : Act} {w : World} {rest : List Oper} {o : Oper} (hg : o.guard = none) (v : Value) (hr : (execOp a.eval o).run P w = .ok (.value v) w)
    (hk : wpList P ops Q rest (a.put o.dst v) w) : wpList P ops Q (o :: rest) a w :=
  wpList_plain hg fun K hK => by
    unfold Oper.wp
    rw [hr]
    exact hK _ _ hk
end Go.Proofs.Ytoaecfaackkicaa
