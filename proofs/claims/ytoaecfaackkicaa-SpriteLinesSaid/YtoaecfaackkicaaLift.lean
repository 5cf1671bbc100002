/- The arguments of the statements, opened and shut: the rows, the screen, a world of which what lay lies as it lay. -/
import Derived.Test.YtoaecfaackkicaaSame
import Derived.ProofKit
import Derived.Lib.SmallJoins
namespace Go.Proofs.Ytoaecfaackkicaa
open Go Go.ChangeShapes Go.WideShapes Go.ChangeAt Go.RowKit Go.Joins

section
variable {H : Type} {enc : TypeId × Value → H} {P : Program}
theorem trodAll_later (hl : laidOutB P = true) {W W' : World} (hb : Below W.heap.size W W') (sp : Nat → Bool) : ∀ {ts : List TypeId} {vs : List Value} {ds : List (DataW H)} {ps : List MemPlace}, (∀ t ∈ ts, P.readableRec t = true ∧ t < P.types.size) →
    DataW.TrodAll enc P W 0 (fun _ => true) true ts vs ds ps → (∀ x ∈ ps, x.block < W.heap.size) → (∀ x ∈ ps, sp x.block = true) → DataW.TrodAll enc P W' 0 sp true ts vs ds ps
  | [], _, _, _, _, h, _, _ => by
    obtain ⟨rfl, rfl, rfl⟩ := trodAll_nil h
    exact trodAll_mk0
  | t :: ts, _, _, _, ht, h, h1, h2 => by
    obtain ⟨v, vs', d, ds', p, q, rfl, rfl, rfl, hd, hr⟩ := trodAll_cons h
    refine trodAll_cons_mk (WideElems.Trod_stays hl (ht t (by simp)).1 (ht t (by simp)).2 hd (fun x hx => hb.same (h1 x (by simp [hx]))) (fun x hx => h2 x (by simp [hx]))) (trodAll_later hl hb sp (fun u hu => ht u (by simp [hu])) hr (fun x hx => h1 x (by simp [hx])) fun x hx => h2 x (by simp [hx]))
/-- The row's last step where what lay lies as it lay, the arguments read as they did and the answer is a truth. -/
theorem post_still (hl : laidOutB P = true) {f : Func} {s : ChangeSpec} {apart fresh handsOn again : Bool} {W W' : World} {args : Array Value} {v : Value} {ds gs : List (DataW H)} {pa pv : List MemPlace} {tb : TypeId}
    (hW : DataW.Whole enc P f.params.toList s.vars apart W args.toList ds gs (pa ++ pv)) (hvs : s.vars = []) (_hgs : gs = []) (hpv : pv = [])
    (hA : DataW.TrodAll enc P W 0 (fun _ => true) true f.params.toList args.toList ds pa) (hread : ∀ t ∈ f.params.toList, P.readableRec t = true ∧ t < P.types.size)
    (hb : Below W.heap.size W W') (hrt : f.resultTypes = #[tb]) (hub : P.underlying tb = some .bool) (b : Bool) (hv : v = .bool b) (hfn : ∃ fn, s.fn H (ds ++ gs) = fn ∧ fn.results = [.lit (.bool b)] ∧ fn.args = ds ∧ fn.vars = []) :
    s.post enc P f apart fresh handsOn again W args v W' := by
  obtain ⟨fn, hf, hr, ha, hvr⟩ := hfn
  have hlt : ∀ p ∈ pa ++ pv, p.block < W.heap.size := fun p hp => hW.lt p hp
  have hold : ∀ p ∈ pa ++ pv, (fun b => decide (b < W.heap.size)) p.block = true := fun p hp => by simpa using hlt p hp
  have hargs : ∀ sp : Nat → Bool, (∀ p ∈ pa ++ pv, sp p.block = true) → DataW.TrodAll enc P W' 0 sp true f.params.toList args.toList (s.fn H (ds ++ gs)).args pa := fun sp hsp => by
    rw [hf, ha]
    exact trodAll_later hl hb sp hread hA (fun x hx => hlt x (by simp [hx])) fun x hx => hsp x (by simp [hx])
  have hres : ∀ (b : Nat) (sp : Nat → Bool) (hd : Bool), DataW.TrodAll enc P W' b sp hd f.resultTypes.toList (v.resultList f.resultTypes.size) (s.fn H (ds ++ gs)).results [] := fun _ _ _ => by
    rw [hf, hr, hrt, hv]
    exact trodAll_mk1 (shut_bool hub _)
  have hvars : ∀ sp : Nat → Bool, DataW.TrodVars enc P W' sp s.vars (s.fn H (ds ++ gs)).vars pv := fun sp => by
    rw [hf, hvr, hvs, hpv]
    rfl
  refine ⟨ds, gs, pa ++ pv, [], pa, pv, hW, hres _ _ _, hargs _ hold, hvars _, World.keptBut_mono (fun p hp => ⟨hp, ?_⟩) (hb.frame (· ∈ pa ++ pv)), fun _ => ?_⟩
  · rw [List.mem_append] at hp
    exact Or.inr hp
  · obtain ⟨_, _, _, _, _, hz, hn⟩ := hW
    refine ⟨?_, _, _, ([] ++ pa) ++ pv, ⟨[] ++ pa, pv, trodAll_append (hargs _ (fun _ _ => rfl)) (hres _ _ _), hvars _, rfl, ?_, ?_⟩, ?_⟩
    · rw [hv]
      exact ok_one hrt rfl (okWide_bool_mk hub _)
    · intro b off hp
      have hin : MemPlace.cell b off ∈ pa ++ pv := by simpa using hp
      rw [hb.frozen (hlt _ hin)]
      exact hz b off hin
    · intro ha
      have := hn ha
      simpa using this
    · exact fun p hp _ => by simpa using hp
end

section
variable {H : Type} {enc : TypeId × Value → H} {W : World} {base : Nat} {sp : Nat → Bool} {hd : Bool}
theorem arr_cells {P : Program} {t e n fuel : Nat} {k : IntKind} {cs : List Value} {x : DataW H × List MemPlace} (ht : P.underlying t = some (.array n e)) (he : P.underlying e = some (.int k)) (hc : P.cellsOf e = 1) (h : DataW.trod enc P W base sp hd fuel t cs = some x) :
    ∀ i, i < n → ∃ z, cs[i]? = some (.int k z) ∧ (Lit.int k z).wf = true := by
  obtain ⟨xs, m, -, -, -, hn, hf⟩ := DataW.trod_array ht h
  intro i hi
  have h1 := hf i hi
  rw [hc, Nat.mul_one, List.getElem?_eq_getElem (show i < xs.length by omega)] at h1
  obtain ⟨z, hz, -, hw⟩ := DataW.trod_int he h1
  refine ⟨z, ?_, hw⟩
  have h0 : ((cs.drop i).take 1)[0]? = some (.int k z) := by rw [hz]; rfl
  rwa [List.getElem?_take, if_pos (by omega), List.getElem?_drop, Nat.add_zero] at h0
theorem leaf_cells {P : Program} {t fuel : Nat} {k : IntKind} {cs : List Value} {x : DataW H × List MemPlace} (ht : P.underlying t = some (.int k)) (h : DataW.trod enc P W base sp hd fuel t cs = some x) :
    ∀ i, i < 1 → ∃ z, cs[i]? = some (.int k z) ∧ (Lit.int k z).wf = true := by
  obtain ⟨z, hz, -, hw⟩ := DataW.trod_int ht h
  intro i hi
  exact ⟨z, by rw [hz, show i = 0 by omega]; rfl, hw⟩
theorem field_cells {cs : List Value} {off m : Nat} {k : IntKind} (h : ∀ i, i < m → ∃ z, ((cs.drop off).take m)[i]? = some (.int k z) ∧ (Lit.int k z).wf = true) : ∀ i, off ≤ i → i < off + m → ∃ z, cs[i]? = some (.int k z) ∧ (Lit.int k z).wf = true := by
  intro i h1 h2
  obtain ⟨z, hz, hw⟩ := h (i - off) (by omega)
  rw [List.getElem?_take, if_pos (by omega), List.getElem?_drop, show off + (i - off) = i by omega] at hz
  exact ⟨z, hz, hw⟩
def zk (i : Nat) : IntKind := if i < 64 then .u8 else if i < 72 then .u16 else if i < 80 then .i16 else .u16
theorem scr_cells {fuel : Nat} {cs : List Value} {x : DataW H × List MemPlace} (h : DataW.trod enc Try.prog W base sp hd fuel 32 cs = some x) : ∀ i, i < 81 → ∃ z, cs[i]? = some (.int (zk i) z) ∧ (Lit.int (zk i) z).wf = true := by
  obtain ⟨xs, m, -, -, -, hn, hf⟩ := DataW.trod_struct Try.underlying32 h
  have c26 : Try.prog.cellsOf 26 = 64 := by kernel_rfl
  have c28 : Try.prog.cellsOf 28 = 4 := by kernel_rfl
  have c30 : Try.prog.cellsOf 30 = 6 := by kernel_rfl
  have c29 : Try.prog.cellsOf 29 = 1 := by kernel_rfl
  have c27 : Try.prog.cellsOf 27 = 1 := by kernel_rfl
  have c5 : Try.prog.cellsOf 5 = 1 := by kernel_rfl
  have hn7 : xs.length = 7 := hn
  have g0 : DataW.trod enc Try.prog W base sp hd m 26 ((cs.drop 0).take (Try.prog.cellsOf 26)) = xs[0]? := hf 0 _ rfl
  have g1 : DataW.trod enc Try.prog W base sp hd m 28 ((cs.drop 64).take (Try.prog.cellsOf 28)) = xs[1]? := hf 1 _ rfl
  have g2 : DataW.trod enc Try.prog W base sp hd m 28 ((cs.drop 68).take (Try.prog.cellsOf 28)) = xs[2]? := hf 2 _ rfl
  have g3 : DataW.trod enc Try.prog W base sp hd m 30 ((cs.drop 72).take (Try.prog.cellsOf 30)) = xs[3]? := hf 3 _ rfl
  have g4 : DataW.trod enc Try.prog W base sp hd m 29 ((cs.drop 78).take (Try.prog.cellsOf 29)) = xs[4]? := hf 4 _ rfl
  have g5 : DataW.trod enc Try.prog W base sp hd m 29 ((cs.drop 79).take (Try.prog.cellsOf 29)) = xs[5]? := hf 5 _ rfl
  have g6 : DataW.trod enc Try.prog W base sp hd m 27 ((cs.drop 80).take (Try.prog.cellsOf 27)) = xs[6]? := hf 6 _ rfl
  rw [List.getElem?_eq_getElem (by omega)] at g0 g1 g2 g3 g4 g5 g6
  rw [c26] at g0
  rw [c28] at g1 g2
  rw [c30] at g3
  rw [c29] at g4 g5
  rw [c27] at g6
  have k0 := field_cells (arr_cells Try.underlying26 Try.underlying5 c5 g0)
  have k1 := field_cells (arr_cells Try.underlying28 Try.underlying27 c27 g1)
  have k2 := field_cells (arr_cells Try.underlying28 Try.underlying27 c27 g2)
  have k3 := field_cells (arr_cells Try.underlying30 Try.underlying29 c29 g3)
  have k4 := field_cells (leaf_cells Try.underlying29 g4)
  have k5 := field_cells (leaf_cells Try.underlying29 g5)
  have k6 := field_cells (leaf_cells Try.underlying27 g6)
  intro i hi
  unfold zk
  by_cases h0 : i < 64
  · rw [if_pos h0]; exact k0 i (by omega) (by omega)
  · rw [if_neg h0]
    by_cases h1 : i < 72
    · rw [if_pos h1]
      by_cases h2 : i < 68
      · exact k1 i (by omega) (by omega)
      · exact k2 i (by omega) (by omega)
    · rw [if_neg h1]
      by_cases h3 : i < 80
      · rw [if_pos h3]
        by_cases h4 : i < 78
        · exact k3 i (by omega) (by omega)
        · by_cases h5 : i < 79
          · exact k4 i (by omega) (by omega)
          · exact k5 i (by omega) (by omega)
      · rw [if_neg h3]; exact k6 i (by omega) (by omega)
end
theorem selfEq_scr {c : Nat → Value} (h : ∀ i, i < 81 → ∃ z, c i = .int (zk i) z) : SelfEq Try.prog 10 32 (.agg (blk 81 c)) := by
  obtain ⟨t1, h1⟩ : ∃ ti, Try.prog.info? 27 = some ti := Option.isSome_iff_exists.1 (by kernel_rfl)
  obtain ⟨t2, h2⟩ : ∃ ti, Try.prog.info? 5 = some ti := Option.isSome_iff_exists.1 (by kernel_rfl)
  obtain ⟨t3, h3⟩ : ∃ ti, Try.prog.info? 29 = some ti := Option.isSome_iff_exists.1 (by kernel_rfl)
  have z0 : ∀ i, i < 64 → zk i = .u8 := fun i hi => by unfold zk; rw [if_pos hi]
  have z1 : ∀ i, 64 ≤ i → i < 72 → zk i = .u16 := fun i hi hj => by unfold zk; rw [if_neg (by omega), if_pos hj]
  have z2 : ∀ i, 72 ≤ i → i < 80 → zk i = .i16 := fun i hi hj => by unfold zk; rw [if_neg (by omega), if_neg (by omega), if_pos hj]
  have z3 : zk 80 = .u16 := rfl
  refine SelfEq.mono (m := 3) (selfEq_struct Try.underlying32 (by kernel_rfl) fun f hf => ?_) (by omega)
  simp only [List.mem_cons, List.not_mem_nil, or_false] at hf
  rcases hf with rfl | rfl | rfl | rfl | rfl | rfl | rfl
  · refine self_part (s := 64) (off := 0) Try.underlying26 rfl (by kernel_rfl) (by omega) (selfEq_ints (k := .u8) Try.underlying26 Try.underlying5 h2 (by kernel_rfl) fun i hi => ?_)
    obtain ⟨z, hz⟩ := h (0 + i) (by omega)
    rw [z0 _ (by omega)] at hz; exact ⟨z, hz⟩
  · refine self_part (s := 4) (off := 64) Try.underlying28 rfl (by kernel_rfl) (by omega) (selfEq_ints (k := .u16) Try.underlying28 Try.underlying27 h1 (by kernel_rfl) fun i hi => ?_)
    obtain ⟨z, hz⟩ := h (64 + i) (by omega)
    rw [z1 _ (by omega) (by omega)] at hz; exact ⟨z, hz⟩
  · refine self_part (s := 4) (off := 68) Try.underlying28 rfl (by kernel_rfl) (by omega) (selfEq_ints (k := .u16) Try.underlying28 Try.underlying27 h1 (by kernel_rfl) fun i hi => ?_)
    obtain ⟨z, hz⟩ := h (68 + i) (by omega)
    rw [z1 _ (by omega) (by omega)] at hz; exact ⟨z, hz⟩
  · refine self_part (s := 6) (off := 72) Try.underlying30 rfl (by kernel_rfl) (by omega) (selfEq_ints (k := .i16) Try.underlying30 Try.underlying29 h3 (by kernel_rfl) fun i hi => ?_)
    obtain ⟨z, hz⟩ := h (72 + i) (by omega)
    rw [z2 _ (by omega) (by omega)] at hz; exact ⟨z, hz⟩
  · obtain ⟨z, hz⟩ := h 78 (by omega)
    refine self_leaf (off := 78) Try.underlying29 rfl (by omega) (by rw [hz, z2 _ (by omega) (by omega)]; exact (selfEq_int Try.underlying29).mono (by omega))
  · obtain ⟨z, hz⟩ := h 79 (by omega)
    refine self_leaf (off := 79) Try.underlying29 rfl (by omega) (by rw [hz, z2 _ (by omega) (by omega)]; exact (selfEq_int Try.underlying29).mono (by omega))
  · obtain ⟨z, hz⟩ := h 80 (by omega)
    refine self_leaf (off := 80) Try.underlying27 rfl (by omega) (by rw [hz, z3]; exact (selfEq_int Try.underlying27).mono (by omega))

section
variable {H : Type} {enc : TypeId × Value → H} {W : World} {base : Nat} {hd : Bool}
theorem wf_u8 {n : Int} (h : (Lit.int .u8 n).wf = true) : 0 ≤ n ∧ n ≤ 255 := by
  simp only [Lit.wf, Bool.and_eq_true, decide_eq_true_eq] at h
  exact h
theorem scr_open {r : Reach} {b0 : Nat} {sp : Nat → Bool} {v : Value} {d : DataW H} {p : List MemPlace} (hv : Value.okWide Try.prog W r b0 32 v) (h : DataW.Trod enc Try.prog W base sp hd 32 v d p) :
    ∃ sc r1, v = .agg (blk 81 sc) ∧ sc 1 = .int .u8 r1 ∧ 0 ≤ r1 ∧ r1 ≤ 255 ∧ (∀ i, i < 81 → (sc i).oneCell' = true) ∧ SelfEq Try.prog 10 32 (.agg (blk 81 sc)) := by
  obtain ⟨cs, rfl, hsz⟩ := okWide_struct Try.underlying32 hv
  have h81 : Try.prog.cellsOf 32 = 81 := by kernel_rfl
  obtain ⟨fuel, hf⟩ := h
  have hc := scr_cells hf
  have hget : ∀ i, i < 81 → ∃ z, arrC cs i = .int (zk i) z ∧ (Lit.int (zk i) z).wf = true := fun i hi => by
    obtain ⟨z, hz, hw⟩ := hc i hi
    refine ⟨z, ?_, hw⟩
    have hlt : i < cs.size := by omega
    have e1 : cs[i]? = some (.int (zk i) z) := by rw [← Array.getElem?_toList]; exact hz
    rw [Array.getElem?_eq_getElem hlt] at e1
    have e2 : arrC cs i = cs[i] := by simp [arrC, hlt]
    rw [e2]; exact Option.some.inj e1
  obtain ⟨r1, hr, hw⟩ := hget 1 (by omega)
  obtain ⟨h0, h1⟩ := wf_u8 hw
  refine ⟨arrC cs, r1, congrArg Value.agg (arr_blk (hsz.trans h81)), hr, h0, h1, fun i hi => ?_, selfEq_scr fun i hi => ?_⟩
  · obtain ⟨z, hz, -⟩ := hget i hi
    rw [hz]; rfl
  · obtain ⟨z, hz, -⟩ := hget i hi
    exact ⟨z, hz⟩
theorem slIn_open {t e n : Nat} {k : IntKind} {v : Value} {y : DataW H × List MemPlace} (ht : Try.prog.underlying t = some (.slice e)) (he : Try.prog.underlying e = some (.int k)) (hc : Try.prog.cellsOf e = 1) (h : DataW.trod enc Try.prog W base (fun _ => true) hd n t [v] = some y) : ∃ zs, SlIn W k v zs := by
  rcases open_ints ht he hc h with ⟨e1, -⟩ | ⟨a, len, cap, zs, e1, -, hlc, hcm, hl, -, hcell, -⟩
  · cases e1
    exact ⟨[], none, 0, rfl, by simp, Or.inl rfl⟩
  · cases e1
    rw [if_pos rfl] at hl
    have hlen : (zs.take len).length = len := by rw [List.length_take]; omega
    unfold maxLen at hcm
    refine ⟨zs.take len, some a, cap, by rw [hlen], by rw [hlen]; omega, ?_⟩
    rw [hlen]
    rcases Nat.eq_zero_or_pos len with h0 | h0
    · exact Or.inl h0
    · right
      obtain ⟨b, off, s⟩ := a
      have hs : s = none := by
        have h1 := hcell 0 (by omega)
        cases s with
        | none => rfl
        | some q =>
          exfalso
          unfold World.cell? at h1
          simp only [Addr.add] at h1
          split at h1 <;> simp_all
      subst hs
      refine ⟨b, off, rfl, block_lt_of_cell (hcell 0 (by omega)), fun j hj => ?_⟩
      have := hcell j (by omega)
      rw [show (⟨b, off, none⟩ : Addr).add j = ⟨b, off + j, none⟩ by unfold Addr.add; split <;> simp_all] at this
      rw [show (zs.take len).getD j 0 = zs.getD j 0 by rw [List.getD_eq_getElem?_getD, List.getD_eq_getElem?_getD, List.getElem?_take, if_pos hj]]
      exact this
theorem rows_open {r : Reach} {b0 : Nat} {v : Value} {d : DataW H} {p : List MemPlace} (hv : Value.okWide Try.prog W r b0 25 v) (h : DataW.Trod enc Try.prog W base (fun _ => true) hd 25 v d p) :
    ∃ wv ov cv ws os cs, v = .agg #[wv, ov, cv] ∧ SlIn W .u16 wv ws ∧ SlIn W .u8 ov os ∧ SlIn W .u16 cv cs := by
  obtain ⟨v0, v1, v2, y0, y1, y2, n, rfl, -, -, h0, h1, h2⟩ := open_agg3 Try.underlying25 (by kernel_rfl) (by kernel_rfl) hv h
  have c27 : Try.prog.cellsOf 27 = 1 := by kernel_rfl
  have c5 : Try.prog.cellsOf 5 = 1 := by kernel_rfl
  obtain ⟨ws, hw⟩ := slIn_open Try.underlying22 Try.underlying27 c27 h0
  obtain ⟨os, ho⟩ := slIn_open Try.underlying23 Try.underlying5 c5 h1
  obtain ⟨cs, hc⟩ := slIn_open Try.underlying22 Try.underlying27 c27 h2
  exact ⟨v0, v1, v2, ws, os, cs, rfl, hw, ho, hc⟩
theorem ins_open {r r' : Reach} {b0 b1 : Nat} {v0 v1 : Value} {d0 d1 : DataW H} {p0 p1 : List MemPlace} (hv0 : Value.okWide Try.prog W r b0 25 v0) (h0 : DataW.Trod enc Try.prog W base (fun _ => true) hd 25 v0 d0 p0)
    (hv1 : Value.okWide Try.prog W r' b1 32 v1) (h1 : DataW.Trod enc Try.prog W base (fun _ => true) hd 32 v1 d1 p1) :
    ∃ M wv ov cv ws os cs sc, v0 = .agg #[wv, ov, cv] ∧ v1 = .agg (blk 81 sc) ∧ Ins M ws os cs sc ∧ SlIn W .u16 wv ws ∧ SlIn W .u8 ov os ∧ SlIn W .u16 cv cs := by
  obtain ⟨wv, ov, cv, ws, os, cs, rfl, hw, ho, hc⟩ := rows_open hv0 h0
  obtain ⟨sc, r1, rfl, h1, h2, h3, h4, h5⟩ := scr_open hv1 h1
  exact ⟨⟨vrOf ws, oaOf os, cgOf cs, r1⟩, wv, ov, cv, ws, os, cs, sc, rfl, rfl, ⟨rfl, rfl, rfl, h1, h2, h3, h4, h5⟩, hw, ho, hc⟩
end
end Go.Proofs.Ytoaecfaackkicaa
