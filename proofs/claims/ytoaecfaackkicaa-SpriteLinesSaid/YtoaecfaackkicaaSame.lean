/- A line of sprites at any first sprite and any row, in range or out of it; what a video and a line compare with themselves. -/
import Derived.Test.YtoaecfaackkicaaAwake
namespace Go.Proofs.Ytoaecfaackkicaa
open Go Go.RowKit

def LF (M : Mem) (f y : Int) : List Int := if outB f y = true then [] else ints (M.found f.toNat y)
def LS (M : Mem) (f y : Int) : List Sl := if outB f y = true then [] else M.slivers f.toNat y
def LR (M : Mem) (f y : Int) : Bool := if outB f y = true then false else M.over f.toNat y
def LL (M : Mem) (f y : Int) : Bool := if outB f y = true then false else M.late f.toNat y
def LP (M : Mem) (f y : Int) : Nat → Dt := if outB f y = true then fun _ => Dt.none else M.pdots f.toNat y
def LD (M : Mem) (f y : Int) : Nat → Dt := if outB f y = true then fun _ => Dt.none else M.rdots f.toNat y
theorem LP_eq (M : Mem) (f y : Int) : ∀ x, x < 256 → LP M f y x = LD M f y x := by
  intro x hx
  unfold LP LD
  split
  · rfl
  · exact pdots_eq M _ y x hx
theorem ownI_nil (B : Nat) (w : World) : OwnI B w (.slice none 0 0) [] := (World.ownsRow_nil _ _ _ _ : World.ownsRow _ _ _ _ _ 0 [])
theorem ownS_nil (B : Nat) (w : World) : OwnS B w (.slice none 0 0) [] := (World.ownsRow_nil _ _ _ _ : World.ownsRow _ _ _ _ _ 0 [])
theorem inB {f y : Int} (h : ¬outB f y = true) : 0 ≤ f ∧ f ≤ 127 ∧ 0 ≤ y ∧ y ≤ 255 := by
  unfold outB at h
  simp only [Bool.or_eq_true, decide_eq_true_eq] at h
  omega
theorem pl_all (bv bs : Nat) (f y : Int) (M : Mem) (w : World)
    (hv : VidAt w bv M.vr M.oa M.cg) (hcg : ∀ i, 0 ≤ M.cg i ∧ M.cg i ≤ 65535) (hr : w.cell? ⟨bs, 0 + 1, none⟩ = some (.int .u8 M.r1)) (hr0 : 0 ≤ M.r1) (hr1 : M.r1 ≤ 255) :
    Calls Try.prog 8 #[.pointer (some ⟨bv, 0, none⟩), .pointer (some ⟨bs, 0, none⟩), .int .i64 f, .int .i64 y] w fun e w' => ∃ fv sv, e = .returned (.agg (blk 1028 (lineC fv sv (LR M f y) (LL M f y) (LP M f y)))) ∧
      OwnI w.heap.size w' fv (LF M f y) ∧ OwnS w.heap.size w' sv (LS M f y) ∧ Below w.heap.size w w' := by
  unfold LR LL LP LF LS
  by_cases h : outB f y = true
  · simp only [if_pos h]
    refine (pline_no _ _ f y h w).mono ?_
    rintro e w' ⟨rfl, hb⟩
    exact ⟨_, _, rfl, ownI_nil _ _, ownS_nil _ _, hb⟩
  · simp only [if_neg h]
    obtain ⟨h0, h1, h2, h3⟩ := inB h
    obtain ⟨n, rfl⟩ := Int.eq_ofNat_of_zero_le h0
    exact pline_any bv bs 0 n y M (by omega) h2 h3 w hv hcg hr hr0 hr1
theorem rl_all (bv bs : Nat) (f y : Int) (M : Mem) (w : World)
    (hv : VidAt w bv M.vr M.oa M.cg) (hcg : ∀ i, 0 ≤ M.cg i ∧ M.cg i ≤ 65535) (hr : w.cell? ⟨bs, 0 + 1, none⟩ = some (.int .u8 M.r1)) (hr0 : 0 ≤ M.r1) (hr1 : M.r1 ≤ 255) :
    Calls Try.prog 10 #[.pointer (some ⟨bv, 0, none⟩), .pointer (some ⟨bs, 0, none⟩), .int .i64 f, .int .i64 y] w fun e w' => ∃ fv sv, e = .returned (.agg (blk 1028 (lineC fv sv (LR M f y) (LL M f y) (LD M f y)))) ∧
      OwnI w.heap.size w' fv (LF M f y) ∧ OwnS w.heap.size w' sv (LS M f y) ∧ Below w.heap.size w w' := by
  unfold LR LL LD LF LS
  by_cases h : outB f y = true
  · simp only [if_pos h]
    refine (rline_no _ _ f y h w).mono ?_
    rintro e w' ⟨rfl, hb⟩
    exact ⟨_, _, rfl, ownI_nil _ _, ownS_nil _ _, hb⟩
  · simp only [if_neg h]
    obtain ⟨h0, h1, h2, h3⟩ := inB h
    obtain ⟨n, rfl⟩ := Int.eq_ofNat_of_zero_le h0
    exact rline_any bv bs 0 n y M (by omega) h2 h3 w hv hcg hr hr0 hr1
theorem selfEq_vid (vr oa cg : Nat → Int) : SelfEq Try.prog 3 49 (.agg (blk 33568 (vidC vr oa cg))) := by
  obtain ⟨t1, h1⟩ : ∃ ti, Try.prog.info? 27 = some ti := Option.isSome_iff_exists.1 (by kernel_rfl)
  obtain ⟨t2, h2⟩ : ∃ ti, Try.prog.info? 5 = some ti := Option.isSome_iff_exists.1 (by kernel_rfl)
  refine selfEq_struct Try.underlying49 (by kernel_rfl) fun f hf => ?_
  simp only [List.mem_cons, List.not_mem_nil, or_false] at hf
  rcases hf with rfl | rfl | rfl
  · refine self_part (s := 32768) (off := 0) Try.underlying45 rfl (by kernel_rfl) (by omega) (selfEq_ints (k := .u16) Try.underlying45 Try.underlying27 h1 (by kernel_rfl) fun i hi => ?_)
    exact ⟨_, by unfold vidC; rw [if_pos (by omega)]⟩
  · refine self_part (s := 544) (off := 32768) Try.underlying46 rfl (by kernel_rfl) (by omega) (selfEq_ints (k := .u8) Try.underlying46 Try.underlying5 h2 (by kernel_rfl) fun i hi => ?_)
    exact ⟨_, by unfold vidC; rw [if_neg (by omega), if_pos (by omega)]⟩
  · refine self_part (s := 256) (off := 33312) Try.underlying47 rfl (by kernel_rfl) (by omega) (selfEq_ints (k := .u16) Try.underlying47 Try.underlying27 h1 (by kernel_rfl) fun i hi => ?_)
    exact ⟨_, by unfold vidC; rw [if_neg (by omega), if_neg (by omega)]⟩
theorem VidAt.of_rows {w : World} {b : Nat} {ws os cs : List Int} (h : ObjAt w b 49 33568 (vidC (vrOf ws) (oaOf os) (cgOf cs))) : VidAt w b (vrOf ws) (oaOf os) (cgOf cs) := VidAt.of_obj h (vrOf_bd ws) (oaOf_bd os)
theorem cgOf_bd' (cs : List Int) (i : Nat) : 0 ≤ cgOf cs i ∧ cgOf cs i ≤ 65535 := by have := cgOf_bd cs i; omega
theorem ObjAt.type {w : World} {b t t' n n' : Nat} {c c' : Nat → Value} (h : ObjAt w b t n c) (h' : ObjAt w b t' n' c') : t = t' := by
  have e := h.symm.trans h'
  injection e with e
  injection e
/-- The row of numbers and the row of slivers lie apart. -/
theorem own_apart {B B' : Nat} {w : World} {v v' : Value} {xs : List Int} {ss : List Sl} (h : OwnI B w v xs) (h' : OwnS B' w v' ss) : ∀ g, v.ownBlock = some g → v'.ownBlock ≠ some g := by
  intro g hg hg'
  obtain ⟨a, cap, rfl, -⟩ := h.form
  obtain ⟨a', cap', rfl, -⟩ := h'.form
  unfold OwnI at h
  unfold OwnS at h'
  rcases h.2 with ⟨e, -⟩ | ⟨k, c, cur, e, -, hh, -⟩
  · rw [e] at hg; cases hg
  · rcases h'.2 with ⟨e', -⟩ | ⟨k', c', cur', e', -, hh', -⟩
    · rw [e'] at hg'; cases hg'
    · rw [e] at hg; rw [e'] at hg'
      cases hg; cases hg'
      rw [hh] at hh'
      injection hh' with e1
      injection e1 with e1 e2
      cases e2
theorem exec_load_whole {P : Program} {w : World} {o : Oper} {ρ : Operand → Value} {b t n ty : Nat} {c : Nat → Value} (x : Operand) (ho : o.op = .load ty x)
    (hx : ρ x = .pointer (some ⟨b, 0, none⟩)) (h : ObjAt w b t n c) (hi : (P.info? ty).map (·.size) = some n) {d : TypeDesc} (hu : P.underlying ty = some d)
    (hd : (match d with | .struct _ | .array _ _ => true | _ => false) = true) : (execOp ρ o).run P w = .ok (.value (.agg (blk n c))) w := by
  have := exec_load_obj x ho hx h (by omega) hi hu hd
  simpa only [Nat.zero_add] using this
theorem Try.zeroScr (w : World) : (zeroValue 32).run Try.prog w = .ok (.agg (blk 81 zscr)) w := zero_run Try.infoScr Try.lenScr (by decide) Try.chkScr w

/-- What the statements take in: three lists that make a video's memory, and a screen. -/
structure Ins (M : Mem) (ws os cs : List Int) (sc : Nat → Value) : Prop where
  vr : vrOf ws = M.vr
  oa : oaOf os = M.oa
  cg : cgOf cs = M.cg
  one : sc 1 = .int .u8 M.r1
  r0 : 0 ≤ M.r1
  r1 : M.r1 ≤ 255
  cells : ∀ i, i < 81 → (sc i).oneCell' = true
  same : SelfEq Try.prog 10 32 (.agg (blk 81 sc))
theorem Ins.vid {M : Mem} {ws os cs : List Int} {sc : Nat → Value} (H : Ins M ws os cs sc) {w : World} {b : Nat} (h : ObjAt w b 49 33568 (vidC M.vr M.oa M.cg)) : VidAt w b M.vr M.oa M.cg := by
  rw [← H.vr, ← H.oa, ← H.cg] at h ⊢
  exact VidAt.of_obj h (vrOf_bd ws) (oaOf_bd os)
theorem Ins.cell {M : Mem} {ws os cs : List Int} {sc : Nat → Value} (H : Ins M ws os cs sc) {w : World} {b t : Nat} (h : ObjAt w b t 81 sc) : w.cell? ⟨b, 0 + 1, none⟩ = some (.int .u8 M.r1) := (h.cell (i := 0 + 1) (by omega)).trans (congrArg some H.one)
theorem Ins.cgB {M : Mem} {ws os cs : List Int} {sc : Nat → Value} (H : Ins M ws os cs sc) (i : Nat) : 0 ≤ M.cg i ∧ M.cg i ≤ 65535 := by rw [← H.cg]; exact cgOf_bd' cs i
theorem Ins.oaB {M : Mem} {ws os cs : List Int} {sc : Nat → Value} (H : Ins M ws os cs sc) (i : Nat) : 0 ≤ M.oa i ∧ M.oa i ≤ 255 := by rw [← H.oa]; exact oaOf_bd os i
theorem Ins.video {M : Mem} {ws os cs : List Int} {sc : Nat → Value} (H : Ins M ws os cs sc) {wv ov cv : Value} {w : World} (hw : SlIn w .u16 wv ws) (ho : SlIn w .u8 ov os) (hc : SlIn w .u16 cv cs) :
    Calls Try.prog 7 #[.agg #[wv, ov, cv]] w fun e w' => ∃ b, e = .returned (.pointer (some ⟨b, 0, none⟩)) ∧ w.heap.size ≤ b ∧ ObjAt w' b 49 33568 (vidC M.vr M.oa M.cg) ∧ Below w.heap.size w w' := by
  rw [← H.vr, ← H.oa, ← H.cg]; exact video_any wv ov cv ws os cs w hw ho hc
theorem Ins.pl {M : Mem} {ws os cs : List Int} {sc : Nat → Value} (H : Ins M ws os cs sc) {bv bs t : Nat} (f y : Int) {w : World} (hv : ObjAt w bv 49 33568 (vidC M.vr M.oa M.cg)) (hs : ObjAt w bs t 81 sc) :
    Calls Try.prog 8 #[.pointer (some ⟨bv, 0, none⟩), .pointer (some ⟨bs, 0, none⟩), .int .i64 f, .int .i64 y] w fun e w' => ∃ fv sv, e = .returned (.agg (blk 1028 (lineC fv sv (LR M f y) (LL M f y) (LP M f y)))) ∧
      OwnI w.heap.size w' fv (LF M f y) ∧ OwnS w.heap.size w' sv (LS M f y) ∧ Below w.heap.size w w' := pl_all bv bs f y M w (H.vid hv) H.cgB (H.cell hs) H.r0 H.r1
theorem Ins.rl {M : Mem} {ws os cs : List Int} {sc : Nat → Value} (H : Ins M ws os cs sc) {bv bs t : Nat} (f y : Int) {w : World} (hv : ObjAt w bv 49 33568 (vidC M.vr M.oa M.cg)) (hs : ObjAt w bs t 81 sc) :
    Calls Try.prog 10 #[.pointer (some ⟨bv, 0, none⟩), .pointer (some ⟨bs, 0, none⟩), .int .i64 f, .int .i64 y] w fun e w' => ∃ fv sv, e = .returned (.agg (blk 1028 (lineC fv sv (LR M f y) (LL M f y) (LD M f y)))) ∧
      OwnI w.heap.size w' fv (LF M f y) ∧ OwnS w.heap.size w' sv (LS M f y) ∧ Below w.heap.size w w' := rl_all bv bs f y M w (H.vid hv) H.cgB (H.cell hs) H.r0 H.r1
theorem lineC_line (fv sv : Value) (ro late : Bool) (d : Nat → Dt) (h1 : fv.oneCell' = true) (h2 : sv.oneCell' = true) : ∀ i, i < 1028 → (lineC fv sv ro late d i).oneCell' = true := fun _ _ => lineC_one _ _ h1 h2 _ _ _ _
theorem OwnI.chg {B b : Nat} {w w' : World} {v : Value} {xs : List Int} (h : OwnI B w v xs) (hc : Chg b w w') (hne : v.ownBlock ≠ some b) : OwnI B w' v xs := hc.but.own h hne
theorem OwnS.chg {B b : Nat} {w w' : World} {v : Value} {xs : List Sl} (h : OwnS B w v xs) (hc : Chg b w w') (hne : v.ownBlock ≠ some b) : OwnS B w' v xs := hc.but.own h hne
theorem ownI_one {B : Nat} {w : World} {v : Value} {xs : List Int} (h : OwnI B w v xs) : v.oneCell' = true := by obtain ⟨a, c, rfl, -⟩ := h.form; rfl
theorem ownS_one {B : Nat} {w : World} {v : Value} {xs : List Sl} (h : OwnS B w v xs) : v.oneCell' = true := by obtain ⟨a, c, rfl, -⟩ := h.form; rfl
/-- The row of slivers that is written: it lies between A and Z. -/
def SlRow (A Z N : Nat) (sa : Option Addr) (w : World) : Prop := N = 0 ∨ ∃ g m c, sa = some ⟨g, 0, none⟩ ∧ A ≤ g ∧ g < Z ∧ ObjAt w g 52 m c ∧ N * 4 ≤ m
theorem SlRow.of {A N cap : Nat} {sa : Option Addr} {w : World} {S : List Sl} (h : OwnS A w (.slice sa N cap) S) (hN : N = S.length) : SlRow A w.heap.size N sa w := by
  have h' : w.ownsRow A 52 4 (.slice sa N cap) N (S.flatMap Sl.cs) := by rw [hN]; unfold OwnS at h; rw [hN] at h; exact h
  rcases own_obj h' with h0 | ⟨g, m, c, e, hA, ho, hm⟩
  · exact Or.inl h0
  · exact Or.inr ⟨g, m, c, e, hA, ho.lt, ho, hm⟩
theorem SlRow.below {A Z N : Nat} {sa : Option Addr} {w w' : World} (h : SlRow A Z N sa w) (hb : Below w.heap.size w w') : SlRow A Z N sa w' := by
  rcases h with h0 | ⟨g, m, c, e, hA, hZ, ho, hm⟩
  · exact Or.inl h0
  · exact Or.inr ⟨g, m, c, e, hA, hZ, ho.below hb ho.lt, hm⟩
theorem SlRow.chg {A Z N b : Nat} {sa : Option Addr} {w w' : World} (h : SlRow A Z N sa w) (hc : Chg b w w') (hb : Z ≤ b) : SlRow A Z N sa w' := by
  rcases h with h0 | ⟨g, m, c, e, hA, hZ, ho, hm⟩
  · exact Or.inl h0
  · exact Or.inr ⟨g, m, c, e, hA, hZ, hc.obj (by omega) ho, hm⟩
theorem SlRow.grown {A Z N : Nat} {sa : Option Addr} {w w' : World} {row : Option Nat} (h : SlRow A Z N sa w) (hb : w.grownBy w' row) (hne : ∀ g, sa = some ⟨g, 0, none⟩ → some g ≠ row) : SlRow A Z N sa w' := by
  rcases h with h0 | ⟨g, m, c, e, hA, hZ, ho, hm⟩
  · exact Or.inl h0
  · exact Or.inr ⟨g, m, c, e, hA, hZ, (hb.block _ ho.lt (hne g e)).trans ho, hm⟩
end Go.Proofs.Ytoaecfaackkicaa
