/- Objects in memory as functions from places to values: reading, writing, loading a part by value; the zero values of great types. No program in sight. -/
import Derived.Test.YtoaecfaackkicaaBase
namespace Go.Proofs.Ytoaecfaackkicaa
open Go Go.RowKit

/-- n cells, the i-th of them c i. -/
def blk (n : Nat) (c : Nat → Value) : Array Value := Array.ofFn (n := n) fun i => c i
def upd (c : Nat → Value) (j : Nat) (v : Value) : Nat → Value := fun i => if i = j then v else c i
theorem size_blk (n : Nat) (c : Nat → Value) : (blk n c).size = n := by simp [blk]
theorem blk_get (n : Nat) (c : Nat → Value) (i : Nat) : (blk n c)[i]? = if i < n then some (c i) else none := by
  by_cases h : i < n
  · simp [blk, h]
  · simp [blk, h]
theorem blk_set (n : Nat) (c : Nat → Value) (j : Nat) (v : Value) : (blk n c).setIfInBounds j v = blk n (upd c j v) := by
  apply Array.ext_getElem?
  intro i
  rw [Array.getElem?_setIfInBounds, blk_get, blk_get, size_blk]
  by_cases h : j = i
  · subst h; by_cases h2 : j < n <;> simp [h2, upd]
  · have h' : ¬ i = j := fun e => h e.symm
    by_cases h2 : i < n <;> simp [h, h', h2, upd]
theorem blk_congr {n : Nat} {c d : Nat → Value} (h : ∀ i, i < n → c i = d i) : blk n c = blk n d := by
  apply Array.ext_getElem?
  intro i
  rw [blk_get, blk_get]
  by_cases h2 : i < n
  · simp [h2, h i h2]
  · simp [h2]
theorem eq_blk {n : Nat} {a : Array Value} {c : Nat → Value} (hs : a.size = n) (h : ∀ i, i < n → a[i]? = some (c i)) : a = blk n c := by
  apply Array.ext_getElem?
  intro i
  rw [blk_get]
  by_cases h2 : i < n
  · simp [h2, h i h2]
  · simp [h2]; omega
theorem blk_extract (n m o : Nat) (c : Nat → Value) (h : o + m ≤ n) : (blk n c).extract o (o + m) = blk m fun i => c (o + i) := by
  apply eq_blk
  · simp [size_blk]; omega
  · intro i hi
    rw [Array.getElem?_extract, blk_get, if_pos (by rw [size_blk]; omega), if_pos (by omega)]

/-- At block b lies an object of n cells. -/
def ObjAt (w : World) (b t n : Nat) (c : Nat → Value) : Prop := w.heap[b]? = some (.cells (blk n c) t (0, 0))
theorem ObjAt.lt {w : World} {b t n : Nat} {c : Nat → Value} (h : ObjAt w b t n c) : b < w.heap.size := (Array.getElem?_eq_some_iff.1 h).1
theorem ObjAt.cell {w : World} {b t n : Nat} {c : Nat → Value} (h : ObjAt w b t n c) {i : Nat} (hi : i < n) : w.cell? ⟨b, i, none⟩ = some (c i) := by
  rw [cell_of_row w b i _ t (0, 0) h, blk_get, if_pos hi]
theorem ObjAt.frozen {w : World} {b t n : Nat} {c : Nat → Value} (h : ObjAt w b t n c) (i : Nat) : w.frozen? ⟨b, i, none⟩ = false := by
  unfold World.frozen?
  rw [show w.heap[(⟨b, i, none⟩ : Addr).block]? = _ from h]
  simp
theorem ObjAt.below {w w' : World} {b t n B : Nat} {c : Nat → Value} (h : ObjAt w b t n c) (hb : Below B w w') (hB : b < B) : ObjAt w' b t n c := (hb.block b hB).trans h
theorem ObjAt.set {w : World} {b t n : Nat} {c : Nat → Value} (h : ObjAt w b t n c) (j : Nat) (v : Value) : ObjAt (w.setCell ⟨b, j, none⟩ v) b t n (upd c j v) := by
  unfold ObjAt
  rw [← blk_set]
  exact heap_setCell_same w b j _ t v h
theorem ObjAt.other {w : World} {b t n : Nat} {c : Nat → Value} (h : ObjAt w b t n c) {a : Addr} (ha : b ≠ a.block) (v : Value) : ObjAt (w.setCell a v) b t n c := (Below.heap_setCell w a v b ha).trans h
theorem ObjAt.alloc {w : World} {b t n : Nat} {c : Nat → Value} (h : ObjAt w b t n c) (o : Obj) : ObjAt (w.alloc o) b t n c := (Below.heap_alloc w o b h.lt).trans h
theorem ObjAt.drewN {w : World} {b t n : Nat} {c : Nat → Value} (h : ObjAt w b t n c) (k : Nat) : ObjAt (w.drewN k) b t n c := h
theorem ObjAt.congr {w : World} {b t n : Nat} {c d : Nat → Value} (h : ObjAt w b t n c) (e : ∀ i, i < n → c i = d i) : ObjAt w b t n d := by
  unfold ObjAt; rw [← blk_congr e]; exact h
theorem ObjAt.new (w : World) (t n : Nat) (c : Nat → Value) : ObjAt (w.alloc (.cells (blk n c) t)) w.heap.size t n c := heap_alloc_new w _

/-! ### Loading m cells from place o on, by value -/
theorem run_loadCellsFrom_obj {P : Program} {w : World} {b t n : Nat} {c : Nat → Value} (h : ObjAt w b t n c) (o : Nat) : ∀ (m i : Nat) (acc : Array Value), o + i + m ≤ n →
    (loadCellsFrom ⟨b, o, none⟩ i m acc).run P w = .ok (acc ++ blk m fun j => c (o + i + j)) w := by
  intro m
  induction m with
  | zero => intro i acc _; simp [loadCellsFrom, blk]
  | succ m ih =>
    intro i acc hm
    have ha : (⟨b, o, none⟩ : Addr).add i = ⟨b, o + i, none⟩ := by unfold Addr.add; split <;> simp_all
    have hc := h.cell (i := o + i) (by omega)
    simp only [loadCellsFrom, Sem.run_bind, ha]
    rw [show (load ⟨b, o + i, none⟩).run P w = .ok (c (o + i)) w by simp [load, Sem.run, hc]]
    simp only [Result.andThen_ok]
    rw [ih (i + 1) _ (by omega)]
    congr 1
    apply Array.ext_getElem?
    intro k
    simp only [Array.getElem?_append, Array.size_push, blk_get]
    by_cases h1 : k < acc.size
    · rw [if_pos (by omega), if_pos h1, Array.getElem?_push, if_neg (by omega)]
    · by_cases h2 : k = acc.size
      · subst h2; simp
      · rw [if_neg (by omega), if_neg h1]
        by_cases h3 : k - acc.size < m + 1
        · rw [if_pos (by omega), if_pos h3]; congr 2; omega
        · rw [if_neg (by omega), if_neg h3]

theorem run_loadVar_obj {P : Program} {w : World} {b t n : Nat} {c : Nat → Value} (h : ObjAt w b t n c) (o m ty : Nat) (d : TypeDesc) (hu : P.underlying ty = some d)
    (hd : (match d with | .struct _ | .array _ _ => true | _ => false) = true) (hi : (P.info? ty).map (·.size) = some m) (hm : o + m ≤ n) :
    (loadVar ty ⟨b, o, none⟩).run P w = .ok (.agg (blk m fun j => c (o + j))) w := by
  have hagg : (isAgg ty).run P w = .ok true w := by
    unfold isAgg
    rw [Sem.run_bind, run_underlying hu w]
    cases d <;> simp_all
  have := run_loadCellsFrom_obj (P := P) h o m 0 #[] (by omega)
  simp only [loadVar, Sem.run_bind, hagg, Result.andThen_ok, if_true, run_sizeOf' hi, loadCells, this]
  simp

/-! ### The zero value of a great type, checked by the kernel -/
def isZero (k : Option IntKind) : Value → Bool
  | .int j n => (match k with | some i => decide (j = i) && decide (n = 0) | none => false)
  | .bool b => (match k with | none => !b | _ => false)
  | _ => false
def chkRun (k : Option IntKind) : List Value → Nat → Option (List Value)
  | vs, 0 => some vs
  | [], _ + 1 => none
  | v :: vs, n + 1 => if isZero k v then chkRun k vs n else none
def zeroOf : Option IntKind → Value
  | some k => .int k 0
  | none => .bool false
theorem isZero_eq {k : Option IntKind} {v : Value} (h : isZero k v = true) : v = zeroOf k := by
  cases v <;> cases k <;> simp_all [isZero, zeroOf]
theorem chkRun_spec {k : Option IntKind} : ∀ (n : Nat) (vs r : List Value), chkRun k vs n = some r → vs.length = n + r.length ∧ (∀ i, i < n → vs[i]? = some (zeroOf k)) ∧ ∀ i, vs[n + i]? = r[i]? := by
  intro n
  induction n with
  | zero => intro vs r h; cases vs <;> simp_all [chkRun]
  | succ n ih =>
    intro vs r h
    cases vs with
    | nil => simp [chkRun] at h
    | cons v vs =>
      simp only [chkRun] at h
      split at h
      · rename_i hz
        obtain ⟨h1, h2, h3⟩ := ih vs r h
        refine ⟨by simp; omega, ?_, ?_⟩
        · intro i hi
          cases i with
          | zero => simp [isZero_eq hz]
          | succ i => simpa using h2 i (by omega)
        · intro i
          have := h3 i
          rw [show n + 1 + i = (n + i) + 1 by omega]
          simpa using this
      · simp at h
/-! ### Another check: cell by cell against a function -/
def vEq : Value → Value → Bool
  | .int j m, .int k n => decide (j = k) && decide (m = n)
  | .bool a, .bool b => a == b
  | .slice none 0 0, .slice none 0 0 => true
  | .pointer none, .pointer none => true
  | _, _ => false
theorem vEq_eq {a b : Value} (h : vEq a b = true) : a = b := by
  unfold vEq at h
  split at h <;> simp_all
def chkAll (f : Nat → Value) : List Value → Nat → Bool
  | [], _ => true
  | v :: vs, i => vEq v (f i) && chkAll f vs (i + 1)
theorem chkAll_spec {f : Nat → Value} : ∀ (l : List Value) (i : Nat), chkAll f l i = true → ∀ j, j < l.length → l[j]? = some (f (i + j)) := by
  intro l
  induction l with
  | nil => intro i _ j hj; simp at hj
  | cons v vs ih =>
    intro i h j hj
    simp only [chkAll, Bool.and_eq_true] at h
    cases j with
    | zero => simp [vEq_eq h.1]
    | succ j =>
      have := ih (i + 1) h.2 j (by simpa using hj)
      simpa [Nat.add_assoc, Nat.add_comm 1 j] using this
def zcells (i : TypeInfo) : List Value := match i.zero with | some (.agg cs) => cs.toList | _ => []
theorem zero_run {P : Program} {T n : Nat} {ti : TypeInfo} {f : Nat → Value} (hi : P.info? T = some ti) (hn : (zcells ti).length = n) (hp : 0 < n) (hc : chkAll f (zcells ti) 0 = true) (w : World) : (zeroValue T).run P w = .ok (.agg (blk n f)) w := by
  unfold zcells at hn hc
  have hz : ∃ cs, ti.zero = some (.agg cs) ∧ cs = blk n f := by
    cases hz : ti.zero with
    | none => rw [hz] at hn; simp at hn; omega
    | some v =>
      cases v with
      | agg cs =>
        rw [hz] at hn hc
        refine ⟨cs, rfl, eq_blk (by simpa using hn) fun i hi => ?_⟩
        have := chkAll_spec _ 0 hc i (by simp only [hn]; exact hi)
        simpa using this
      | _ => rw [hz] at hn; simp at hn; omega
  obtain ⟨cs, hz, rfl⟩ := hz
  simp [zeroValue, typeInfo, hi, hz]

/-! ### One block turned -/
/-- w' is w but for what lies in block b. -/
structure Chg (b : Nat) (w w' : World) : Prop where
  os : w'.os = w.os
  tape : w'.tape = w.tape
  output : w'.output = w.output
  size : w'.heap.size = w.heap.size
  block : ∀ k, k ≠ b → w'.heap[k]? = w.heap[k]?
theorem Chg.refl (b : Nat) (w : World) : Chg b w w := ⟨rfl, rfl, rfl, rfl, fun _ _ => rfl⟩
theorem Chg.trans {b : Nat} {w w' w'' : World} (h : Chg b w w') (k : Chg b w' w'') : Chg b w w'' :=
  ⟨k.os.trans h.os, k.tape.trans h.tape, k.output.trans h.output, k.size.trans h.size, fun i hi => (k.block i hi).trans (h.block i hi)⟩
theorem Chg.setCell (b j : Nat) (w : World) (v : Value) : Chg b w (w.setCell ⟨b, j, none⟩ v) :=
  ⟨rfl, rfl, rfl, by simp [World.setCell], fun k hk => Below.heap_setCell w _ v k hk⟩
theorem Chg.below {b B : Nat} {w w' : World} (h : Chg b w w') (hb : B ≤ b) : Below B w w' :=
  ⟨h.os, h.tape, h.output, Nat.le_of_eq h.size.symm, fun k hk => h.block k (by omega)⟩
theorem below_chg {b B : Nat} {a w w' : World} (k : Below B a w) (h : Chg b w w') (hb : B ≤ b) : Below B a w' := k.trans (h.below hb)
theorem Chg.cell {b : Nat} {w w' : World} (h : Chg b w w') {p : Addr} (hp : p.block ≠ b) : w'.cell? p = w.cell? p := World.cell?_of_block (w := w) (h.block _ hp)
theorem Chg.frozen {b : Nat} {w w' : World} (h : Chg b w w') {p : Addr} (hp : p.block ≠ b) : w'.frozen? p = w.frozen? p := World.frozen?_of_block (w := w) (h.block _ hp)
theorem Chg.obj {b : Nat} {w w' : World} (h : Chg b w w') {g t n : Nat} {c : Nat → Value} (hg : g ≠ b) (ho : ObjAt w g t n c) : ObjAt w' g t n c := (h.block g hg).trans ho

def ovr (c : Nat → Value) (o : Nat) (vs : List Value) : Nat → Value := fun i => if o ≤ i ∧ i < o + vs.length then vs.getD (i - o) undef else c i
theorem run_store_ok {P : Program} {w : World} {a : Addr} {v u : Value} (hv : v.oneCell' = true) (hc : w.cell? a = some u) (hf : w.frozen? a = false) : (store a v).run P w = .ok () (w.setCell a v) := by
  cases v <;> simp [store, Sem.run, hc, hf, Value.oneCell'] at hv ⊢
theorem run_storeCells_obj {P : Program} {b t n : Nat} : ∀ (vs : List Value) (w : World) (c : Nat → Value) (o i : Nat), ObjAt w b t n c → o + i + vs.length ≤ n → (∀ v ∈ vs, v.oneCell' = true) →
    ∃ w', (storeCells ⟨b, o, none⟩ vs i).run P w = .ok () w' ∧ ObjAt w' b t n (ovr c (o + i) vs) ∧ Chg b w w' := by
  intro vs
  induction vs with
  | nil =>
    intro w c o i h _ _
    refine ⟨w, rfl, h.congr fun k _ => ?_, Chg.refl _ _⟩
    unfold ovr; rw [if_neg (by simp)]
  | cons v vs ih =>
    intro w c o i h hn hv
    have ha : (⟨b, o, none⟩ : Addr).add i = ⟨b, o + i, none⟩ := by unfold Addr.add; split <;> simp_all
    have hs := run_store_ok (P := P) (hv v (by simp)) (h.cell (i := o + i) (by simp at hn; omega)) (h.frozen (o + i))
    obtain ⟨w', hr, ho, hc⟩ := ih (w.setCell ⟨b, o + i, none⟩ v) (upd c (o + i) v) o (i + 1) (h.set _ _) (by simp at hn; omega) (fun u hu => hv u (by simp [hu]))
    refine ⟨w', ?_, ho.congr fun k _ => ?_, (Chg.setCell b (o + i) w v).trans hc⟩
    · simp only [storeCells, Sem.run_bind, ha, hs, Result.andThen_ok]; exact hr
    · unfold ovr upd
      by_cases h1 : k = o + i
      · subst h1; rw [if_neg (by omega), if_pos rfl, if_pos (by simp)]; simp
      · by_cases h2 : o + (i + 1) ≤ k ∧ k < o + (i + 1) + vs.length
        · rw [if_pos h2, if_pos (by simp; omega)]
          rw [show k - (o + i) = (k - (o + (i + 1))) + 1 by omega]; simp
        · rw [if_neg h2, if_neg h1, if_neg (by simp; omega)]
theorem run_storeVar_obj {P : Program} {w : World} {b t n m ty : Nat} {c : Nat → Value} (h : ObjAt w b t n c) (d : Nat → Value) (o : Nat) (hm : o + m ≤ n) (hi : (P.info? ty).map (·.size) = some m) (hd : ∀ i, i < m → (d i).oneCell' = true) :
    ∃ w', (storeVar ty ⟨b, o, none⟩ (.agg (blk m d))).run P w = .ok () w' ∧ ObjAt w' b t n (fun i => if o ≤ i ∧ i < o + m then d (i - o) else c i) ∧ Chg b w w' := by
  obtain ⟨w', hr, ho, hc⟩ := run_storeCells_obj (P := P) (blk m d).toList w c o 0 h (by simp [size_blk]; exact hm) (fun v hv => by
    obtain ⟨i, hi2, rfl⟩ := List.getElem_of_mem hv
    have hi3 : i < m := by simpa [size_blk] using hi2
    have := blk_get m d i
    rw [if_pos hi3] at this
    have e : (blk m d).toList[i] = d i := by
      have : (blk m d).toList[i]? = some (d i) := by simpa using this
      rw [List.getElem?_eq_getElem hi2] at this
      exact Option.some.inj this
    rw [e]; exact hd i hi3)
  refine ⟨w', ?_, ho.congr fun k _ => ?_, hc⟩
  · have hsz : (Value.agg (blk m d)).cells.size = m := size_blk m d
    simp only [storeVar, Sem.run_bind, run_sizeOf' hi, Result.andThen_ok, hsz]
    rw [if_neg (by simp)]
    exact hr
  · unfold ovr
    simp only [Nat.add_zero, Array.length_toList, size_blk]
    by_cases h1 : o ≤ k ∧ k < o + m
    · rw [if_pos h1, if_pos h1]
      have h2 := blk_get m d (k - o)
      rw [if_pos (by omega)] at h2
      simp [h2]
    · rw [if_neg h1, if_neg h1]

/-- A store of a great value, in a walk. -/
theorem wpList_store_obj {P : Program} {ops : Array Oper} {Q : Exit → Act → World → Prop} {a : Act} {w : World} {rest : List Oper} {o : Oper} {b t n m ty off : Nat} {c d : Nat → Value} (hg : o.guard = none) (x y : Operand) (ho : o.op = .store ty x y)
    (hx : a.eval x = .pointer (some ⟨b, off, none⟩)) (hy : a.eval y = .agg (blk m d)) (h : ObjAt w b t n c) (hm : off + m ≤ n) (hi : (P.info? ty).map (·.size) = some m) (hd : ∀ i, i < m → (d i).oneCell' = true)
    (hk : ∀ w', ObjAt w' b t n (fun i => if off ≤ i ∧ i < off + m then d (i - off) else c i) → Chg b w w' → wpList P ops Q rest (a.put o.dst undef) w') : wpList P ops Q (o :: rest) a w :=
  wpList_plain hg fun K hK => by
    obtain ⟨w', hr, ho', hc⟩ := run_storeVar_obj (P := P) h d off hm hi hd
    have : (execOp a.eval o).run P w = .ok .skip w' := by
      unfold execOp
      rw [ho]
      simp only [hx, hy, Instr.storeAt, Instr.sureAddr]
      simp [Sem.run_bind, hr]
    unfold Oper.wp
    rw [this]
    exact hK _ _ (hk w' ho' hc)
/-- A load of a great value, in a walk. -/
theorem wpList_load_obj {P : Program} {ops : Array Oper} {Q : Exit → Act → World → Prop} {a : Act} {w : World} {rest : List Oper} {o : Oper} {b t n m ty off : Nat} {c : Nat → Value} (hg : o.guard = none) (x : Operand) (ho : o.op = .load ty x)
    (hx : a.eval x = .pointer (some ⟨b, off, none⟩)) (h : ObjAt w b t n c) (hm : off + m ≤ n) (hi : (P.info? ty).map (·.size) = some m) {d : TypeDesc} (hu : P.underlying ty = some d)
    (hd : (match d with | .struct _ | .array _ _ => true | _ => false) = true)
    (hk : wpList P ops Q rest (a.put o.dst (.agg (blk m fun j => c (off + j)))) w) : wpList P ops Q (o :: rest) a w :=
  wpList_plain hg fun K hK => by
    have hr := run_loadVar_obj (P := P) h off m ty d hu hd hi hm
    have : (execOp a.eval o).run P w = .ok (.value (.agg (blk m fun j => c (off + j)))) w := by
      unfold execOp
      rw [ho]
      simp only [hx, Instr.loadAt, Instr.sureAddr]
      simp [Sem.run_bind, hr]
    unfold Oper.wp
    rw [this]
    exact hK _ _ hk

/-- w' has what w has but for block b, and maybe new blocks. -/
structure But (b : Nat) (w w' : World) : Prop where
  os : w'.os = w.os
  tape : w'.tape = w.tape
  output : w'.output = w.output
  size : w.heap.size ≤ w'.heap.size
  block : ∀ k, k < w.heap.size → k ≠ b → w'.heap[k]? = w.heap[k]?
theorem But.refl (b : Nat) (w : World) : But b w w := ⟨rfl, rfl, rfl, Nat.le_refl _, fun _ _ _ => rfl⟩
theorem But.trans {b : Nat} {w w' w'' : World} (h : But b w w') (k : But b w' w'') : But b w w'' :=
  ⟨k.os.trans h.os, k.tape.trans h.tape, k.output.trans h.output, Nat.le_trans h.size k.size, fun i hi hb => (k.block i (Nat.lt_of_lt_of_le hi h.size) hb).trans (h.block i hi hb)⟩
theorem Chg.but {b : Nat} {w w' : World} (h : Chg b w w') : But b w w' := ⟨h.os, h.tape, h.output, Nat.le_of_eq h.size.symm, fun k _ hk => h.block k hk⟩
theorem But.of_below {b : Nat} {w w' : World} (h : Below w.heap.size w w') : But b w w' := ⟨h.os, h.tape, h.output, h.size, fun k hk _ => h.block k hk⟩
theorem But.grow {b : Nat} {a w w' : World} (h : But b a w) (k : Below w.heap.size w w') : But b a w' := h.trans (But.of_below k)
theorem But.setCell {b : Nat} {a w : World} (h : But b a w) (j : Nat) (v : Value) : But b a (w.setCell ⟨b, j, none⟩ v) := h.trans (Chg.setCell b j w v).but
theorem But.alloc {b : Nat} {a w : World} (h : But b a w) (o : Obj) : But b a (w.alloc o) := h.grow ((Below.refl _ w).alloc (Nat.le_refl _) o)
theorem But.drewN {b : Nat} {a w : World} (h : But b a w) (n : Nat) : But b a (w.drewN n) := h.grow (below_drewN' (Below.refl _ w) n)
theorem But.obj {b : Nat} {w w' : World} (h : But b w w') {g t n : Nat} {c : Nat → Value} (ho : ObjAt w g t n c) (hg : g ≠ b) : ObjAt w' g t n c := (h.block g ho.lt hg).trans ho
theorem But.cell {b : Nat} {w w' : World} (h : But b w w') {p : Addr} {v : Value} (hc : w.cell? p = some v) (hp : p.block ≠ b) : w'.cell? p = some v :=
  (World.cell?_of_block (w := w) (h.block _ (block_lt_of_cell hc) hp)).trans hc
theorem But.below {b B : Nat} {w w' : World} (h : But b w w') (hb : B ≤ b) (hB : B ≤ w.heap.size) : Below B w w' :=
  ⟨h.os, h.tape, h.output, h.size, fun k hk => h.block k (by omega) (by omega)⟩
theorem But.own {b : Nat} {w w' : World} (h : But b w w') {base e size n : Nat} {v : Value} {xs : List Value} (ho : w.ownsRow base e size v n xs) (hne : v.ownBlock ≠ some b) : w'.ownsRow base e size v n xs := by
  obtain ⟨h1, h2⟩ := ho
  refine ⟨h1, ?_⟩
  rcases h2 with h2 | ⟨g, cap, cur, rfl, hg, hh, r⟩
  · exact Or.inl h2
  · exact Or.inr ⟨g, cap, cur, rfl, hg, by rw [h.block g (Array.getElem?_eq_some_iff.1 hh).1 (fun e => hne (by rw [e]; rfl))]; exact hh, r⟩

attribute [go_sem] blk_get blk_set size_blk
@[go_sem] theorem upd_same (c : Nat → Value) (j : Nat) (v : Value) : upd c j v j = v := by simp [upd]
theorem upd_ne (c : Nat → Value) {i j : Nat} (v : Value) (h : i ≠ j) : upd c j v i = c i := by simp [upd, h]
end Go.Proofs.Ytoaecfaackkicaa
