/- Walking with frames that are names: of a frame it is known which values some slots hold. No program in sight. -/
import Derived.Test.YtoaecfaackkicaaReg
import Derived.Test.YtoaecfaackkicaaEq
namespace Go.Proofs.Ytoaecfaackkicaa
open Go Go.RowKit

abbrev Env := List (Nat × Value)
def look : Env → Nat → Option Value
  | [], _ => none
  | (s, v) :: r, t => match Nat.beq s t with
    | true => some v
    | false => look r t
def envL (L : Env) : Operand → Value
  | .tmp t => (look L t).getD undef
  | .const v => v
  | .global g => .pointer (some ⟨g, 0, none⟩)
  | .func f => .func (.func f) #[] #[]
theorem look_same (L : Env) (t : Nat) (v : Value) : look ((t, v) :: L) t = some v := by
  have e : Nat.beq t t = true := Nat.beq_refl t
  show (match Nat.beq t t with | true => some v | false => look L t) = some v
  rw [e]
theorem look_ne (L : Env) {s t : Nat} (v : Value) (h : s ≠ t) : look ((s, v) :: L) t = look L t := by
  have e : Nat.beq s t = false := by
    cases hb : Nat.beq s t
    · rfl
    · exact absurd (Nat.eq_of_beq_eq_true hb) h
  show (match Nat.beq s t with | true => some v | false => look L t) = look L t
  rw [e]
/-- n slots; those of L hold what L says. -/
structure Knows (n : Nat) (L : Env) (a : Act) : Prop where
  size : a.tmps.size = n
  defers : a.defers = []
  slot : ∀ t v, look L t = some v → a.tmps[t]? = some v
theorem Knows.eval {n : Nat} {L : Env} {a : Act} (K : Knows n L a) {t : Nat} {v : Value} (h : look L t = some v) : a.eval (.tmp t) = v := by
  have := K.slot t v h
  simp [Act.eval, this]
theorem Knows.put {n : Nat} {L : Env} {a : Act} (K : Knows n L a) {d : Nat} (hd : d < n) (v : Value) : Knows n ((d, v) :: L) (a.put (some d) v) := by
  refine ⟨by simp [Act.put, K.size], K.defers, fun t u h => ?_⟩
  by_cases e : d = t
  · subst e
    rw [look_same] at h
    cases h
    simp [Act.put, K.size, hd]
  · rw [look_ne L v e] at h
    simp [Act.put, Array.getElem?_setIfInBounds_ne e, K.slot t u h]
def pick (ts : List Nat) (L : Env) : Env := match ts with
  | [] => []
  | t :: ts => match look L t with
    | some v => (t, v) :: pick ts L
    | none => pick ts L
theorem look_pick {L : Env} {t : Nat} {v : Value} : ∀ {ts : List Nat}, look (pick ts L) t = some v → look L t = some v := by
  intro ts
  induction ts with
  | nil => intro h; cases h
  | cons s ts ih =>
    intro h
    unfold pick at h
    split at h
    · rename_i u hu
      by_cases e : s = t
      · subst e; rw [look_same] at h; rw [hu]; exact h
      · rw [look_ne _ _ e] at h; exact ih h
    · exact ih h
theorem Knows.cut {n : Nat} {L L' : Env} {a : Act} (K : Knows n L a) (ts : List Nat) (h : pick ts L = L') : Knows n L' a := by
  subst h
  exact ⟨K.size, K.defers, fun t v h => K.slot t v (look_pick h)⟩
theorem Knows.as {n : Nat} {L L' : Env} {a : Act} (K : Knows n L a) (h : L = L') : Knows n L' a := h ▸ K
/-- A frame at a function's entry. -/
def enterL : Nat → List Value → Nat → Env
  | _, [], 0 => []
  | i, [], m + 1 => (i, undef) :: enterL (i + 1) [] m
  | i, v :: vs, m => (i, v) :: enterL (i + 1) vs m
def slots (i : Nat) : List Value → Env
  | [] => []
  | v :: vs => (i, v) :: slots (i + 1) vs
theorem look_slots {t : Nat} {v : Value} : ∀ (l : List Value) (i : Nat), look (slots i l) t = some v → i ≤ t ∧ l[t - i]? = some v := by
  intro l
  induction l with
  | nil => intro i h; cases h
  | cons u l ih =>
    intro i h
    by_cases e : i = t
    · subst e
      rw [show slots i (u :: l) = (i, u) :: slots (i + 1) l from rfl, look_same] at h
      simp [Option.some.inj h]
    · rw [show slots i (u :: l) = (i, u) :: slots (i + 1) l from rfl, look_ne _ _ e] at h
      obtain ⟨h1, h2⟩ := ih (i + 1) h
      exact ⟨by omega, by rw [show t - i = (t - (i + 1)) + 1 by omega]; simpa using h2⟩
theorem Knows.enter (args : Array Value) (n : Nat) (h : args.size ≤ n) : Knows n (slots 0 args.toList) { tmps := args ++ Array.replicate (n - args.size) undef, defers := [] } := by
  refine ⟨by simp; omega, rfl, fun t v ht => ?_⟩
  obtain ⟨-, h2⟩ := look_slots _ _ ht
  have hlt : t < args.size := by
    rcases Nat.lt_or_ge t args.size with h | h
    · exact h
    · rw [List.getElem?_eq_none (by simpa using h)] at h2; cases h2
  rw [Array.getElem?_append_left hlt]
  simpa using h2
/-- The walk of a function. -/
theorem v_enter {P : Program} {f : FuncId} {fn : Func} {c : Code} {args : Array Value} {w : World} {R : Ending → World → Prop} (hf : P.funcs[f]? = some fn) (hb : fn.body = some c) (n : Nat) (hn : fn.ntmps = n) (hs : Nat.ble args.size n = true)
    (h : ∀ a, Knows n (slots 0 args.toList) a → c.wp P (bodyPost P fn R) a w) : Calls P f args w R :=
  calls_of_wp hf hb (by rw [hn]; exact h _ (Knows.enter args n (Nat.le_of_ble_eq_true hs)))

/-! ### Operations whose value hangs on the frame alone -/
def pureOf {α : Type} (P : Program) : Sem α → Option α
  | .pure a => some a
  | .program k => pureOf P (k P)
  | .mark _ k => pureOf P k
  | _ => none
theorem pureOf_run {α : Type} {P : Program} {x : α} : ∀ (s : Sem α), pureOf P s = some x → ∀ w, s.run P w = .ok x w
  | .pure a, h, w => by simp only [pureOf, Option.some.injEq] at h; subst h; rfl
  | .program k, h, w => pureOf_run (k P) h w
  | .mark _ k, h, w => pureOf_run k h w
  | .load .., h, _ => by cases h
  | .store .., h, _ => by cases h
  | .new .., h, _ => by cases h
  | .shape .., h, _ => by cases h
  | .freeze .., h, _ => by cases h
  | .frozen .., h, _ => by cases h
  | .getObj .., h, _ => by cases h
  | .setObj .., h, _ => by cases h
  | .choose .., h, _ => by cases h
  | .sys .., h, _ => by cases h
  | .halt .., h, _ => by cases h
theorem ex_pure {P : Program} {s : Sem Next} {x : Next} (h : pureOf P s = some x) (w : World) : s.run P w = .ok x w := pureOf_run s h w

def opKnown (L : Env) (o : Oper) : Bool := (match o.op with | .select .. => false | _ => true) && o.op.operands.all fun x => match x with | .tmp t => (look L t).isSome | _ => true
theorem env_exec {n : Nat} {L : Env} {a : Act} (K : Knows n L a) {o : Oper} (h : opKnown L o = true) : execOp a.eval o = execOp (envL L) o := by
  unfold opKnown at h
  simp only [Bool.and_eq_true] at h
  refine execOp_congr o (fun cs b e => by rw [e] at h; simp at h) fun x hx => ?_
  have hk := (Array.all_eq_true_iff_forall_mem.1 h.2) x hx
  cases x with
  | tmp t =>
    simp only at hk
    cases hl : look L t with
    | none => rw [hl] at hk; cases hk
    | some v => rw [K.eval hl]; simp [envL, hl]
  | _ => rfl
/-- Is an operation that has a guard wanted? -/
def wantL (ops : Array Oper) (L : Env) (o : Oper) : Option Bool := match o.guard with
  | none => some true
  | some (g, want) => match (ops[g]?).bind (·.dst) with
    | some d => match look L d with
      | some (.bool b) => some (b == want)
      | _ => none
    | none => none
theorem want_eq {n : Nat} {L : Env} {a : Act} (K : Knows n L a) {ops : Array Oper} {o : Oper} {b : Bool} (h : wantL ops L o = some b) : Region.wanted o (yielded ops a.tmps) = b := by
  unfold wantL at h
  unfold Region.wanted
  cases hg : o.guard with
  | none => rw [hg] at h; exact Option.some.inj h
  | some gw =>
    obtain ⟨g, want⟩ := gw
    rw [hg] at h
    simp only at h
    cases hd : (ops[g]?).bind (·.dst) with
    | none => rw [hd] at h; cases h
    | some d =>
      rw [hd] at h
      simp only at h
      cases hl : look L d with
      | none => rw [hl] at h; cases h
      | some v =>
        rw [hl] at h
        cases v <;> simp only [Option.some.injEq, reduceCtorEq] at h
        subst h
        have := K.slot d _ hl
        rename_i b0
        have hy : yielded ops a.tmps g = some b0 := by unfold yielded; rw [hd, Option.bind_some, this]
        show (yielded ops a.tmps g == some want) = _
        rw [hy]
        cases b0 <;> cases want <;> rfl
/-- One operation that reads the frame alone. -/
def simple1 (P : Program) (n : Nat) (ops : Array Oper) (L : Env) (o : Oper) : Option Env := match o.dst with
  | none => none
  | some d => match Nat.blt d n with
    | false => none
    | true => match wantL ops L o with
      | none => none
      | some false => some ((d, undef) :: L)
      | some true => match opKnown L o with
        | false => none
        | true => match pureOf P (execOp (envL L) o) with
          | some (.value v) => some ((d, v) :: L)
          | _ => none
theorem simple1_spec {P : Program} {n : Nat} {ops : Array Oper} {L L' : Env} {o : Oper} (h : simple1 P n ops L o = some L') : ∃ d v, o.dst = some d ∧ d < n ∧ L' = (d, v) :: L ∧
    ((wantL ops L o = some true ∧ opKnown L o = true ∧ ∀ w, (execOp (envL L) o).run P w = .ok (.value v) w) ∨ (wantL ops L o = some false ∧ v = undef)) := by
  unfold simple1 at h
  split at h
  · cases h
  · rename_i d hd
    split at h
    · cases h
    · rename_i hlt
      have hdn : d < n := by simpa [Nat.blt_eq] using hlt
      split at h
      · cases h
      · rename_i hw; cases h; exact ⟨d, _, hd, hdn, rfl, Or.inr ⟨hw, rfl⟩⟩
      · rename_i hw
        split at h
        · cases h
        · rename_i hk
          split at h
          · rename_i v hv; cases h; exact ⟨d, v, hd, hdn, rfl, Or.inl ⟨hw, hk, pureOf_run _ hv⟩⟩
          · cases h

/-! ### A region in the order of its text -/
section
variable {P : Program} {ops : Array Oper} {Q : Exit → Act → World → Prop} {rest : List Oper} {o : Oper} {n : Nat} {L : Env} {a : Act} {w : World}
def simpleN (P : Program) (n : Nat) (ops : Array Oper) : Nat → List Oper → Env → Option Env
  | 0, _, L => some L
  | k + 1, o :: r, L => match simple1 P n ops L o with
    | some L' => simpleN P n ops k r L'
    | none => none
  | _ + 1, [], _ => none
def stOk (n : Nat) (ops : Array Oper) (L : Env) (o : Oper) (d : Nat) : Bool := (match o.dst with | some e => Nat.beq e d | none => false) && Nat.blt d n && opKnown L o && (match wantL ops L o with | some true => true | _ => false)
theorem stOk_spec {d : Nat} (h : stOk n ops L o d = true) : o.dst = some d ∧ d < n ∧ opKnown L o = true ∧ wantL ops L o = some true := by
  unfold stOk at h
  simp only [Bool.and_eq_true] at h
  obtain ⟨⟨⟨h1, h2⟩, h3⟩, h4⟩ := h
  refine ⟨?_, by simpa [Nat.blt_eq] using h2, h3, ?_⟩
  · split at h1
    · rename_i e he; rw [he, Nat.eq_of_beq_eq_true h1]
    · cases h1
  · split at h4
    · assumption
    · cases h4
theorem l_wanted (K : Knows n L a) (hw : wantL ops L o = some true) (h : o.wp P a w (wpList P ops Q rest) Q) : wpList P ops Q (o :: rest) a w := by
  unfold wpList
  rw [if_pos (want_eq K hw)]
  exact Or.inl h
theorem l_run1 {L' : Env} (K : Knows n L a) (hs : simple1 P n ops L o = some L') (h : ∀ a', Knows n L' a' → wpList P ops Q rest a' w) : wpList P ops Q (o :: rest) a w := by
  obtain ⟨d, v, hd, hdn, rfl, ⟨hw, hk, hr⟩ | ⟨hw, rfl⟩⟩ := simple1_spec hs
  · refine l_wanted K hw ?_
    unfold Oper.wp
    rw [env_exec K hk, hr]
    show wpList P ops Q rest (a.put o.dst v) w
    rw [hd]; exact h _ (K.put hdn v)
  · unfold wpList
    rw [if_neg (by rw [want_eq K hw]; simp), hd]
    exact h _ (K.put hdn undef)
/-- k operations that read the frame alone; then what is to be known. -/
theorem l_run (k : Nat) (ts : List Nat) (L' : Env) {l : List Oper} (K : Knows n L a) (hs : (simpleN P n ops k l L).map (pick ts) = some L') (h : ∀ a', Knows n L' a' → wpList P ops Q (l.drop k) a' w) : wpList P ops Q l a w := by
  cases hq : simpleN P n ops k l L with
  | none => rw [hq] at hs; cases hs
  | some L1 =>
    rw [hq] at hs
    have e : pick ts L1 = L' := Option.some.inj hs
    have h' : ∀ a', Knows n L1 a' → wpList P ops Q (l.drop k) a' w := fun a' K' => h a' (K'.cut ts e)
    clear h hs e
    induction k generalizing l L a with
    | zero => cases hq; exact h' a K
    | succ k ih =>
      cases l with
      | nil => cases hq
      | cons o r =>
        simp only [simpleN] at hq
        cases h1 : simple1 P n ops L o with
        | none => rw [h1] at hq; cases hq
        | some L2 =>
          rw [h1] at hq
          exact l_run1 K h1 fun a' K' => ih K' hq h'
/-- An operation with a value. -/
theorem l_val (d : Nat) (v : Value) {w' : World} (K : Knows n L a) (hs : stOk n ops L o d = true) (hr : (execOp (envL L) o).run P w = .ok (.value v) w') (h : ∀ a', Knows n ((d, v) :: L) a' → wpList P ops Q rest a' w') : wpList P ops Q (o :: rest) a w := by
  obtain ⟨hd, hdn, hk, hw⟩ := stOk_spec hs
  refine l_wanted K hw ?_
  unfold Oper.wp
  rw [env_exec K hk, hr]
  show wpList P ops Q rest (a.put o.dst v) w'
  rw [hd]; exact h _ (K.put hdn v)
def unOk (ops : Array Oper) (L : Env) (o : Oper) : Bool := (match o.dst with | some _ => false | none => true) && opKnown L o && (match wantL ops L o with | some true => true | _ => false)
theorem unOk_spec (h : unOk ops L o = true) : o.dst = none ∧ opKnown L o = true ∧ wantL ops L o = some true := by
  unfold unOk at h
  simp only [Bool.and_eq_true] at h
  obtain ⟨⟨h1, h2⟩, h3⟩ := h
  refine ⟨?_, h2, ?_⟩
  · split at h1
    · cases h1
    · assumption
  · split at h3
    · assumption
    · cases h3
/-- A store. -/
theorem l_unit {w' : World} (K : Knows n L a) (hs : unOk ops L o = true) (hr : (execOp (envL L) o).run P w = .ok .skip w') (h : wpList P ops Q rest a w') : wpList P ops Q (o :: rest) a w := by
  obtain ⟨hd, hk, hw⟩ := unOk_spec hs
  refine l_wanted K hw ?_
  unfold Oper.wp
  rw [env_exec K hk, hr]
  show wpList P ops Q rest (a.put o.dst undef) w'
  rw [hd]; exact h
/-- A call. -/
theorem l_call (d : Nat) {f : FuncId} {args : Array Value} {R : Ending → World → Prop} (K : Knows n L a) (hs : stOk n ops L o d = true) (hr : (execOp (envL L) o).run P w = .ok (.enter f args) w) (hc : Calls P f args w R)
    (h : ∀ e w', R e w' → ∃ v, e = .returned v ∧ ∀ a', Knows n ((d, v) :: L) a' → wpList P ops Q rest a' w') : wpList P ops Q (o :: rest) a w := by
  obtain ⟨hd, hdn, hk, hw⟩ := stOk_spec hs
  refine l_wanted K hw ?_
  unfold Oper.wp
  rw [env_exec K hk, hr]
  refine Calls.mono hc fun e w' he => ?_
  obtain ⟨v, rfl, hv⟩ := h e w' he
  show wpList P ops Q rest (a.put o.dst v) w'
  rw [hd]; exact hv _ (K.put hdn v)

/-! ### A region that draws its order -/
variable {md : Region.Mode} {m : Nat} {S : World → Prop} {listed : Array Bool} {fuel : Nat}
def tkOk (md : Region.Mode) (ops : Array Oper) (m : Nat) (listed : Array Bool) (i : Nat) : Bool :=
  Region.free md ops listed i && (Region.ready md ops listed).contains i && (Nat.ble ops.size m || waitsFor md ops m i) && !(listed.getD m false)
theorem d_take1 (i : Nat) {oi : Oper} {d : Nat} {v : Value} (hQ : ∀ c a w, Q (.panic c) (a.put (some d) v) w → Q (.panic c) a w) (K : Knows n L a) (hi : ops[i]? = some oi) (hns : Region.noSelect ops = true) (ht : tkOk md ops m listed i = true)
    (hd : oi.dst = some d) (hdn : d < n) (hv : (wantL ops L oi = some true ∧ opKnown L oi = true ∧ ∀ w, S w → (execOp (envL L) oi).run P w = .ok (.value v) w) ∨ (wantL ops L oi = some false ∧ v = undef)) (hS : S w)
    (h : ∀ a', Knows n ((d, v) :: L) a' → wpAnyL P md ops Q m S fuel (listed.setIfInBounds i true) a' w) : wpAnyL P md ops Q m S (fuel + 1) listed a w := by
  unfold tkOk at ht
  simp only [Bool.and_eq_true, Bool.not_eq_true'] at ht
  obtain ⟨⟨⟨h1, h2⟩, h3⟩, h4⟩ := ht
  refine wpAnyL_take i hi hns h1 h2 h3 h4 (v := v) (by rw [hd]; exact hQ) ?_ hS (by rw [hd]; exact h _ (K.put hdn v))
  rcases hv with ⟨hw, hk, hr⟩ | ⟨hw, rfl⟩
  · exact Or.inl ⟨want_eq K hw, fun w hS => by rw [env_exec K hk]; exact hr w hS⟩
  · exact Or.inr ⟨want_eq K hw, rfl⟩
def simpleH (P : Program) (md : Region.Mode) (n : Nat) (ops : Array Oper) (m : Nat) : List Nat → Array Bool → Env → Option (Array Bool × Env)
  | [], listed, L => some (listed, L)
  | i :: is, listed, L => match ops[i]? with
    | none => none
    | some o => match tkOk md ops m listed i with
      | false => none
      | true => match simple1 P n ops L o with
        | none => none
        | some L' => simpleH P md n ops m is (listed.setIfInBounds i true) L'
/-- The panics of what follows do not hang on the frame. -/
def PanicFree (Q : Exit → Act → World → Prop) : Prop := ∀ c a d v w, Q (.panic c) (a.put (some d) v) w → Q (.panic c) a w
/-- Operations that read the frame alone, in this order. -/
theorem d_run (is ts : List Nat) (listed' : Array Bool) (L' : Env) (K : Knows n L a) (hQ : PanicFree Q) (hns : Region.noSelect ops = true) (hs : (simpleH P md n ops m is listed L).map (fun x => (x.1, pick ts x.2)) = some (listed', L')) (hS : S w)
    (h : ∀ a', Knows n L' a' → wpAnyL P md ops Q m S fuel listed' a' w) : wpAnyL P md ops Q m S (fuel + is.length) listed a w := by
  cases hq : simpleH P md n ops m is listed L with
  | none => rw [hq] at hs; cases hs
  | some x =>
    obtain ⟨l1, L1⟩ := x
    rw [hq] at hs
    simp only [Option.map_some, Option.some.injEq, Prod.mk.injEq] at hs
    obtain ⟨rfl, e⟩ := hs
    have h' : ∀ a', Knows n L1 a' → wpAnyL P md ops Q m S fuel l1 a' w := fun a' K' => h a' (K'.cut ts e)
    clear h e
    induction is generalizing listed L a with
    | nil => cases hq; exact h' a K
    | cons i is ih =>
      simp only [simpleH] at hq
      split at hq
      · cases hq
      · rename_i oi hi
        split at hq
        · cases hq
        · rename_i ht
          split at hq
          · cases hq
          · rename_i L2 h1
            obtain ⟨d, v, hd, hdn, rfl, hv⟩ := simple1_spec h1
            exact d_take1 i (fun c a w => hQ c a _ _ w) K hi hns ht hd hdn (hv.imp (fun ⟨x, y, z⟩ => ⟨x, y, fun w _ => z w⟩) id) hS fun a' K' => ih K' hq
/-- An operation that reads the world, too. -/
theorem d_val (i d : Nat) (v : Value) {oi : Oper} (K : Knows n L a) (hQ : PanicFree Q) (hi : ops[i]? = some oi) (hns : Region.noSelect ops = true) (ht : tkOk md ops m listed i = true) (hs : stOk n ops L oi d = true)
    (hr : ∀ w, S w → (execOp (envL L) oi).run P w = .ok (.value v) w) (hS : S w) (h : ∀ a', Knows n ((d, v) :: L) a' → wpAnyL P md ops Q m S fuel (listed.setIfInBounds i true) a' w) : wpAnyL P md ops Q m S (fuel + 1) listed a w := by
  obtain ⟨hd, hdn, hk, hw⟩ := stOk_spec hs
  exact d_take1 i (fun c a w => hQ c a _ _ w) K hi hns ht hd hdn (Or.inl ⟨hw, hk, hr⟩) hS h
/-- What comes up, and what follows. -/
def Comes1 (P : Program) (md : Region.Mode) (ops : Array Oper) (Q : Exit → Act → World → Prop) (m : Nat) (S : World → Prop) (fuel : Nat) (listed : Array Bool) (i : Nat) (a : Act) (w : World) : Prop :=
  wpOp P ops Q i (fun a' w' => ((listed.setIfInBounds i true).getD m false = true ∨ S w') ∧ wpAnyL P md ops Q m S fuel (listed.setIfInBounds i true) a' w') a w
theorem d_one (i : Nat) (hr : Region.ready md ops listed = [i]) (h : Comes1 P md ops Q m S fuel listed i a w) : wpAnyL P md ops Q m S (fuel + 1) listed a w :=
  ⟨fun h0 => absurd (hr ▸ h0) (by simp), fun j hj => by
    rw [hr] at hj
    obtain rfl : j = i := by simpa using hj
    exact h⟩
theorem d_two (i j : Nat) (hr : Region.ready md ops listed = [i, j]) (h : Comes1 P md ops Q m S fuel listed i a w) (h' : Comes1 P md ops Q m S fuel listed j a w) : wpAnyL P md ops Q m S (fuel + 1) listed a w :=
  ⟨fun h0 => absurd (hr ▸ h0) (by simp), fun k hk => by
    rw [hr] at hk
    simp only [List.mem_cons, List.not_mem_nil, or_false] at hk
    rcases hk with rfl | rfl
    · exact h
    · exact h'⟩
theorem comes_wp {i : Nat} {oi : Oper} (K : Knows n L a) (hi : ops[i]? = some oi) (hw : wantL ops L oi = some true)
    (h : oi.wp P a w (fun a' w' => ((listed.setIfInBounds i true).getD m false = true ∨ S w') ∧ wpAnyL P md ops Q m S fuel (listed.setIfInBounds i true) a' w') Q) : Comes1 P md ops Q m S fuel listed i a w := by
  unfold Comes1 wpOp
  simp only [hi]
  rw [if_pos (want_eq K hw)]
  exact Or.inl h
theorem c_val {i : Nat} (d : Nat) (v : Value) {w' : World} {oi : Oper} (K : Knows n L a) (hi : ops[i]? = some oi) (hs : stOk n ops L oi d = true) (hr : (execOp (envL L) oi).run P w = .ok (.value v) w')
    (hS : (listed.setIfInBounds i true).getD m false = true ∨ S w') (h : ∀ a', Knows n ((d, v) :: L) a' → wpAnyL P md ops Q m S fuel (listed.setIfInBounds i true) a' w') : Comes1 P md ops Q m S fuel listed i a w := by
  obtain ⟨hd, hdn, hk, hw⟩ := stOk_spec hs
  refine comes_wp K hi hw ?_
  unfold Oper.wp
  rw [env_exec K hk, hr]
  refine ⟨hS, ?_⟩
  rw [hd]; exact h _ (K.put hdn v)
theorem c_unit {i : Nat} {w' : World} {oi : Oper} (K : Knows n L a) (hi : ops[i]? = some oi) (hs : unOk ops L oi = true) (hr : (execOp (envL L) oi).run P w = .ok .skip w')
    (hS : (listed.setIfInBounds i true).getD m false = true ∨ S w') (h : wpAnyL P md ops Q m S fuel (listed.setIfInBounds i true) a w') : Comes1 P md ops Q m S fuel listed i a w := by
  obtain ⟨hd, hk, hw⟩ := unOk_spec hs
  refine comes_wp K hi hw ?_
  unfold Oper.wp
  rw [env_exec K hk, hr]
  refine ⟨hS, ?_⟩
  rw [hd]; exact h
theorem c_call {i : Nat} (d : Nat) {f : FuncId} {args : Array Value} {R : Ending → World → Prop} {oi : Oper} (K : Knows n L a) (hi : ops[i]? = some oi) (hs : stOk n ops L oi d = true) (hr : (execOp (envL L) oi).run P w = .ok (.enter f args) w) (hc : Calls P f args w R)
    (h : ∀ e w', R e w' → ∃ v, e = .returned v ∧ ((listed.setIfInBounds i true).getD m false = true ∨ S w') ∧ ∀ a', Knows n ((d, v) :: L) a' → wpAnyL P md ops Q m S fuel (listed.setIfInBounds i true) a' w') : Comes1 P md ops Q m S fuel listed i a w := by
  obtain ⟨hd, hdn, hk, hw⟩ := stOk_spec hs
  refine comes_wp K hi hw ?_
  unfold Oper.wp
  rw [env_exec K hk, hr]
  refine Calls.mono hc fun e w' he => ?_
  obtain ⟨v, rfl, hS, hv⟩ := h e w' he
  refine ⟨hS, ?_⟩
  rw [hd]; exact hv _ (K.put hdn v)
/-- The beginning. -/
theorem d_region (m : Nat) (S : World → Prop) {id : Nat} (hm : P.follows .mixedOrders = true) (h : wpAnyL P .any ops Q m S ops.size (Array.replicate ops.size false) a w.drew) : (Code.region id ops true).wp P Q a w := wp_region_L m S hm h
theorem d_done (hr : Region.ready md ops listed = []) (h : Q .normal a w) : wpAnyL P md ops Q m S fuel listed a w := wpAnyL_done hr h _
end

/-! ### The code around the regions -/
section
variable {P : Program} {Q : Exit → Act → World → Prop} {a : Act} {w : World} {n : Nat} {L : Env}
theorem then_normal {K : Act → World → Prop} (h : K a w) : Exit.then K Q .normal a w := h
theorem then_exit {K : Act → World → Prop} {id : Nat} (h : Q (.exit id) a w) : Exit.then K Q (.exit id) a w := h
theorem then_ret {K : Act → World → Prop} (h : Q .ret a w) : Exit.then K Q .ret a w := h
theorem block_normal {id : Nat} (h : Q .normal a w) : Exit.inBlock id Q .normal a w := h
theorem block_ret {id : Nat} (h : Q .ret a w) : Exit.inBlock id Q .ret a w := h
theorem block_exit {id : Nat} (h : Q .normal a w) : Exit.inBlock id Q (.exit id) a w := by show (if id = id then _ else _); rw [if_pos rfl]; exact h
theorem block_other {id id' : Nat} (hne : id' ≠ id) (h : Q (.exit id') a w) : Exit.inBlock id Q (.exit id') a w := by show (if id' = id then _ else _); rw [if_neg hne]; exact h
theorem v_true {c : Operand} {x y : Code} (K : Knows n L a) {t : Nat} (hc : c = .tmp t) (hl : look L t = some (.bool true)) (h : x.wp P Q a w) : (Code.cond c x y).wp P Q a w := wp_cond_true (by rw [hc]; exact K.eval hl) h
theorem v_false {c : Operand} {x y : Code} (K : Knows n L a) {t : Nat} (hc : c = .tmp t) (hl : look L t = some (.bool false)) (h : y.wp P Q a w) : (Code.cond c x y).wp P Q a w := wp_cond_false (by rw [hc]; exact K.eval hl) h
/-- What meets again behind a statement. -/
theorem v_cut {x y : Code} (R : Act → World → Prop) (first : x.wp P (Exit.then R Q) a w) (rest : ∀ a' w', R a' w' → y.wp P Q a' w') : (Code.seq x y).wp P Q a w :=
  wp_seq (Code.wp_mono (fun e a w q => by cases e <;> first | exact q | exact rest _ _ q) first)
theorem v_ret1 {fn : Func} {R : Ending → World → Prop} (K : Knows n L a) {t : Nat} (hr : fn.results = #[.tmp t]) {v : Value} (hl : look L t = some v) (h : R (.returned v) w) : bodyPost P fn R .ret a w :=
  bodyPost_ret (v := v) (by rw [results_tmp hr]; congr 1; have := K.slot t v hl; simp [this]) K.defers h
theorem v_ret2 {fn : Func} {R : Ending → World → Prop} (K : Knows n L a) {t u : Nat} (hr : fn.results = #[.tmp t, .tmp u]) {v v' : Value} (hl : look L t = some v) (hl' : look L u = some v') (h : R (.returned (.tuple #[v, v'])) w) : bodyPost P fn R .ret a w :=
  bodyPost_ret (v := .tuple #[v, v']) (by rw [results_tmp2 hr]; have h1 := K.slot t v hl; have h2 := K.slot u v' hl'; simp [h1, h2]) K.defers h
theorem v_ret0 {fn : Func} {R : Ending → World → Prop} (K : Knows n L a) (hr : fn.results = #[]) (h : R (.returned (.tuple #[])) w) : bodyPost P fn R .ret a w := bodyPost_ret (results_none hr _ _ _) K.defers h
theorem v_end0 {fn : Func} {R : Ending → World → Prop} (K : Knows n L a) (hr : fn.results = #[]) (h : R (.returned (.tuple #[])) w) : bodyPost P fn R .normal a w := bodyPost_end (results_none hr _ _ _) K.defers h
end
end Go.Proofs.Ytoaecfaackkicaa
