/- The walk of the program's loop over the sprites that are on a line: those that are taken. -/
import Derived.Maps.AppendAt
import Derived.Test.YtoaecfaackkicaaFind
namespace Go.Proofs.Ytoaecfaackkicaa
open Go Go.RowKit Go.Shelf
attribute [local go_sem] Oper.semAt_some

set_option maxRecDepth 100000 in
set_option maxHeartbeats 1000000 in
theorem on_any (bl first : Nat) (w : World) :
    Calls Try.prog 26 #[.pointer (some ⟨bl, 0, none⟩), .int .i64 (first : Int)] w fun e w' =>
      e = .returned (.func (.func 30) #[] #[.pointer (some ⟨w.heap.size + 1, 0, none⟩), .pointer (some ⟨w.heap.size, 0, none⟩)]) ∧
      w' = (w.alloc (.cells #[.pointer (some ⟨bl, 0, none⟩)] 64)).alloc (.cells #[.int .i64 (first : Int)] 3) := by
  go_enter Try.func26, Try.ntmps26
  go_wp2
  go_ret
  exact ⟨rfl, rfl⟩

theorem on1_stops (n n0 bl bv bs so b2 b3 first : Nat) (y : Int) (M : Mem) (hf : first < 128) (hoa : ∀ i, 0 ≤ M.oa i ∧ M.oa i ≤ 255) (hr0 : 0 ≤ M.r1) (hr1 : M.r1 ≤ 255) (N : ItN n0 bl bv bs b2 b3)
    (w : World) (hn0 : n0 ≤ w.heap.size) (F : ItF bl bv bs so b2 b3 first y M w) :
    SeqStopsK Fence.wide n Try.prog 30 #[.pointer (some ⟨b3, 0, none⟩), .pointer (some ⟨b2, 0, none⟩)] (fun x : Nat => #[Value.int .i64 (x : Int), (M.sp x).v]) (ItK n0 bl)
      (fun xs => xs = candTo M.oa M.r1 first y 128) (fun pre => pre <+: candTo M.oa M.r1 first y 128) 128 w := fun l J Jx W hW hJ _ hY h0 =>
  callsIn_wide.2 (on1_in n l n0 bl bv bs so b2 b3 first y M hf hoa hr0 hr1 N W.heap.size J Jx hJ hY W (Nat.le_trans hn0 hW.size) (F.keep N (ItK.of_below hW (Nat.lt_of_lt_of_le N.ll hn0) hn0)) h0)

theorem keeps_append {W w1 : World} {base e size n : Nat} {v : Value} {xs : List Value} (h : W.ownsRow base e size v n xs) (hg : W.grownBy w1 v.ownBlock) : KeepsOthers W w1 :=
  KeepsOthers.of_grownBy hg fun j o ej hj => by
    rcases h.2 with ⟨rfl, _⟩ | ⟨g, cap, cur, rfl, _, hgb, _⟩
    · simp [Value.ownBlock] at ej
    · obtain rfl : g = j := by simpa [Value.ownBlock] using ej
      rw [hgb] at hj; cases hj; rfl

/-- Between two rounds of find's loop. -/
structure FindI (n0 bl b1 bv bs so : Nat) (y : Int) (d0 : Nat → Dt) (ro : Bool) (w0 : World) (L : List Nat) (W : World) : Prop where
  (line : ∃ v, ObjAt W bl 66 1031 (progC v (.slice none 0 0) ro false d0 bv bs so y) ∧ OwnI n0 W v (ints L))
  (box : W.cell? ⟨b1, 0, none⟩ = some (.pointer (some ⟨bl, 0, none⟩)))
  (but : But bl w0 W)
  (sz : n0 ≤ W.heap.size)
theorem FindI.grown {n0 bl b1 bv bs so : Nat} {y : Int} {d0 : Nat → Dt} {ro : Bool} {w0 : World} {L : List Nat} {A B : World} {row : Option Nat} {Bm : Nat} (h : FindI n0 bl b1 bv bs so y d0 ro w0 L A) (hg : A.grownBy B row)
    (hr : ∀ r, row = some r → Bm ≤ r ∧ ∃ o : Obj, A.heap[r]? = some o ∧ o.isCells = false) (hB : w0.heap.size ≤ Bm) : FindI n0 bl b1 bv bs so y d0 ro w0 L B := by
  obtain ⟨⟨v, ho, hw⟩, hb, hbut, hsz⟩ := h
  have hbr : ∀ (k : Nat) (cs : Array Value) (t : TypeId) (fr : Nat × Nat), A.heap[k]? = some (.cells cs t fr) → some k ≠ row := fun k cs t fr hk e => by
    obtain ⟨_, o, ho, hc⟩ := hr k e.symm
    rw [hk] at ho; cases ho; cases hc
  refine ⟨⟨v, (hg.block bl ho.lt (hbr bl _ _ _ ho)).trans ho, World.ownsRow.kept hw hg ?_⟩, cell_kept hb hg (fun r e => (hr r e).2), hbut.grown hg (fun k e => Nat.le_trans hB (hr k e).1), Nat.le_trans hsz hg.size⟩
  rcases hw.2 with ⟨rfl, _⟩ | ⟨g, cap, cur, rfl, _, hgb, _⟩
  · exact .inl rfl
  · exact .inr (hbr g _ _ _ hgb)

set_option maxRecDepth 100000 in
set_option maxHeartbeats 4000000 in
theorem find_any (bl bv bs so first : Nat) (y : Int) (M : Mem) (hf : first < 128) (hoa : ∀ i, 0 ≤ M.oa i ∧ M.oa i ≤ 255) (d0 : Nat → Dt) (w : World)
    (hobj : ObjAt w bl 66 1031 (progC (.slice none 0 0) (.slice none 0 0) false false d0 bv bs so y)) (hv : VidAt w bv M.vr M.oa M.cg) (hr : w.cell? ⟨bs, so + 1, none⟩ = some (.int .u8 M.r1)) (hr0 : 0 ≤ M.r1) (hr1 : M.r1 ≤ 255)
    (nv : bv ≠ bl) (ns : bs ≠ bl) :
    Calls Try.prog 17 #[.pointer (some ⟨bl, 0, none⟩), .int .i64 (first : Int)] w fun e w' => e = .returned (.tuple #[]) ∧ ∃ v, ObjAt w' bl 66 1031 (progC v (.slice none 0 0) (M.over first y) false d0 bv bs so y) ∧
      OwnI w.heap.size w' v (ints (M.found first y)) ∧ But bl w w' := by
  obtain ⟨i0, hi, hz0, hz1, hz2⟩ := info_parts Try.infoInt
  have hl := hobj.lt
  have hlv := hv.lt
  have hls : bs < w.heap.size := block_lt_of_cell hr
  refine (callsIn_wide (n := 9)).1 ?_
  refine callsIn_of_wp_marks Try.func17 rfl trivial ?_ rfl
  simp only [Try.ntmps17, List.size_toArray, List.length_cons, List.length_nil, Nat.reduceAdd, Nat.reduceSub, Array.replicate_succ, Array.replicate_zero, List.push_toArray, List.append_toArray, List.nil_append, List.cons_append]
  have HOBJ := Lib.hid hobj
  have HV := Lib.hid hv
  have HR := Lib.hid hr
  have HOA := Lib.hid hoa
  clear hobj hv hr hoa
  gi_wp2_with (refine ⟨trivial, ?_⟩; gi_at_call 26; refine (callsIn_wide.2 (on_any bl first _)).mono ?_; rintro e w' ⟨rfl, rfl⟩)
  obtain ⟨W0, hW0⟩ : ∃ W0, W0 = ((w.alloc (.cells #[.pointer (some ⟨bl, 0, none⟩)] 64)).alloc (.cells #[.pointer (some ⟨bl, 0, none⟩)] 64)).alloc (.cells #[.int .i64 (first : Int)] 3) := ⟨_, rfl⟩
  have hsz : W0.heap.size = w.heap.size + 3 := by rw [hW0]; simp
  have hbel : Below w.heap.size w W0 := by rw [hW0]; exact (((Below.refl _ w).alloc (Nat.le_refl _) _).alloc (by simp) _).alloc (by simp; omega) _
  have x1 : W0.cell? ⟨w.heap.size, 0, none⟩ = some (.pointer (some ⟨bl, 0, none⟩)) := by rw [hW0]; go_simp
  have x2 : W0.cell? ⟨w.heap.size + 1, 0, none⟩ = some (.pointer (some ⟨bl, 0, none⟩)) := by rw [hW0]; go_simp
  have x3 : W0.cell? ⟨w.heap.size + 2, 0, none⟩ = some (.int .i64 (first : Int)) := by rw [hW0]; go_simp
  have hobj0 := HOBJ.out.below hbel hl
  obtain ⟨-, -, -, -, c4, c5, c6⟩ := prog_cells hobj0
  have N : ItN (w.heap.size + 3) bl bv bs (w.heap.size + 1) (w.heap.size + 2) := ⟨nv, ns, by omega, by omega, by omega, by omega, by omega, by omega, by omega⟩
  have F : ItF bl bv bs so (w.heap.size + 1) (w.heap.size + 2) first y M W0 := ⟨x2, x3, c4, c5, c6, HV.out.below hbel hlv, (hbel.cell (p := ⟨bs, so + 1, none⟩) hls).trans HR.out⟩
  have hst := on1_stops 8 (w.heap.size + 3) bl bv bs so (w.heap.size + 1) (w.heap.size + 2) first y M hf HOA.out hr0 hr1 N W0 (by omega) F
  rw [← hW0]
  refine wpIn_rangeFunc_ownG rfl (by omega) (gf := 30) (lb := #[.pointer (some ⟨w.heap.size + 2, 0, none⟩), .pointer (some ⟨w.heap.size + 1, 0, none⟩)]) rfl trivial (enters_of Try.func30 (by kernel_rfl) rfl)
    hst (fun h k => h.trans k) (fun W l o o' hl0 _ _ _ => ItK.putObj W l o' (by omega) (by omega)) (Below.refl _ _) (fun _ => rfl)
    (fun L W => FindI (w.heap.size + 3) bl w.heap.size bv bs so y d0 false w L W ∧ L.length ≤ 32)
    (fun c L W => c = .ret ∧ L.length = 33 ∧ FindI (w.heap.size + 3) bl w.heap.size bv bs so y d0 true w (L.take 32) W)
    (fun L A B row hs hg hr0 => ⟨hs.1.grown hg hr0 (by omega), hs.2⟩)
    (fun c L A B row hs hg hr0 => ⟨hs.1, hs.2.1, hs.2.2.grown hg hr0 (by omega)⟩)
    ⟨⟨⟨_, hobj0, (World.ownsRow_nil _ _ _ _ : World.ownsRow _ _ _ _ _ 0 [])⟩, x1, But.of_below hbel, by omega⟩, by simp⟩
    (fun x : Nat => { tmps := #[.pointer (some ⟨bl, 0, none⟩), .int .i64 (first : Int), .pointer (some ⟨w.heap.size, 0, none⟩), undef, .int .i64 (x : Int), .pointer (some ⟨bl, 0, none⟩), .int .i64 (first : Int), .func (.func 30) #[] #[.pointer (some ⟨w.heap.size + 1 + 1, 0, none⟩), .pointer (some ⟨w.heap.size + 1, 0, none⟩)], .int .i64 (x : Int), (M.sp x).v, undef, undef, undef, undef, undef, undef, undef, undef, undef, undef, undef, undef, undef, undef, undef, undef, undef, undef, undef, undef, undef, undef, undef], defers := [] }) ?assign ?body ?done ?stop
  case assign =>
    intro l x W K hK
    gi_wp2
    exact hK
  case body =>
    rintro l pre x W ⟨⟨⟨v, hobj, hown⟩, hbox, hbut, hszW⟩, hlen⟩ _
    obtain ⟨sa, scap, rfl, hsc, hsm, -⟩ := hown.form
    rw [ints_len] at hobj hown hsc
    unfold maxLen at hsm
    obtain ⟨c0, c1, c2, c3, -, -, -⟩ := prog_cells hobj
    have hfz := hobj.frozen
    have hneb := ownsRow_ne hown hobj (by decide)
    have HO := Lib.hid hobj
    have HW := Lib.hid hown
    have HBU := Lib.hid hbut
    have HNB := Lib.hid hneb
    clear hobj hown hbut hneb
    obtain ⟨q, hq⟩ : ∃ q, q = pre.length := ⟨_, rfl⟩
    rw [← hq] at HO HW HNB hsc hlen c0
    have HQ := Lib.hid hq
    clear hq
    by_cases h32 : q = 32
    · have t3 : ((q : Int) == 32) = true := by simp [h32]
      have H32 := Lib.hid h32
      clear h32
      gi_wp2
      have hp : pre.length = 32 := by rw [← HQ.out]; exact H32.out
      have et : (pre ++ [x]).take 32 = pre := by rw [← hp]; simp
      refine ⟨(KeepsOthers.setCell _ _ _).from _, rfl, by simp [hp], ?_⟩
      rw [et]
      refine ⟨⟨_, ?_, (Chg.setCell bl 2 _ _).but.own HW.out HNB.out⟩, ?_, HBU.out.setCell _ _, by simpa using hszW⟩
      · have h := HO.out.set 2 (.bool true)
        rw [prog_of_line (line_upd_ro _ _ _ true _ _) (by omega)] at h
        exact h
      · exact (Chg.setCell bl 2 W (.bool true)).but.cell hbox (by show w.heap.size ≠ bl; omega)
    · have t3 : ((q : Int) == 32) = false := by simp; omega
      have H32 := Lib.hid h32
      clear h32
      gi_wp2
      have hS : (fun w' : World => w'.cell? ⟨w.heap.size, 0, none⟩ = some (.pointer (some ⟨bl, 0, none⟩)) ∧ w'.cell? ⟨bl, 0, none⟩ = some (.slice sa q scap)) W.drew := ⟨hbox, c0⟩
      have HW2 : World.ownsRow W (w.heap.size + 3) 3 1 (.slice sa q scap) q ((ints pre).map iv) := by have h := HW.out; unfold OwnI at h; rw [ints_len, ← HQ.out] at h; exact h
      have HNW := Lib.hid (World.ownsRow.alloc HW2 (.cells #[.int .i64 (x : Int)] 3))
      have hblW := HO.out.lt
      have hbx : w.heap.size < W.heap.size := block_lt_of_cell hbox
      have hS' : (fun w' : World => w'.cell? ⟨w.heap.size, 0, none⟩ = some (.pointer (some ⟨bl, 0, none⟩)) ∧ w'.cell? ⟨bl, 0, none⟩ = some (.slice sa q scap)) (W.alloc (.cells #[.int .i64 (x : Int)] 3)).drew :=
        ⟨((Below.refl W.heap.size W).alloc (Nat.le_refl _) _).cell (p := ⟨w.heap.size, 0, none⟩) hbx |>.trans hbox, ((Below.refl W.heap.size W).alloc (Nat.le_refl _) _).cell (p := ⟨bl, 0, none⟩) hblW |>.trans c0⟩
      refine wpIn_region_L 9 (fun w' => w'.cell? ⟨w.heap.size, 0, none⟩ = some (.pointer (some ⟨bl, 0, none⟩)) ∧ w'.cell? ⟨bl, 0, none⟩ = some (.slice sa q scap)) (by kernel_rfl) (by kernel_rfl) (fun h => h.elim fun _ h => h.elim fun _ h => h) ?_
      refine wpAnyL_take 0 (v := .pointer (some ⟨bl, 0, none⟩)) rfl (by kernel_rfl) (by kernel_rfl) (by kernel_rfl) (by kernel_rfl) (by kernel_rfl) (fun _ _ _ h => h) (Or.inl ⟨by rfl, ?_⟩) hS ?_
      · intro w' hS'; have hS1 := hS'.1; have hS2 := hS'.2; clear hS'; go_simp
      refine wpAnyL_take 1 (v := .pointer (some ⟨bl, 0, none⟩)) rfl (by kernel_rfl) (by kernel_rfl) (by kernel_rfl) (by kernel_rfl) (by kernel_rfl) (fun _ _ _ h => h) (Or.inl ⟨by rfl, ?_⟩) hS ?_
      · intro w' hS'; have hS1 := hS'.1; have hS2 := hS'.2; clear hS'; go_simp
      refine wpAnyL_take 2 (v := .pointer (some ⟨bl, 0, none⟩)) rfl (by kernel_rfl) (by kernel_rfl) (by kernel_rfl) (by kernel_rfl) (by kernel_rfl) (fun _ _ _ h => h) (Or.inl ⟨by rfl, ?_⟩) hS ?_
      · intro w' hS'; have hS1 := hS'.1; have hS2 := hS'.2; clear hS'; go_simp
      refine wpAnyL_take 3 (v := .pointer (some ⟨bl, 0, none⟩)) rfl (by kernel_rfl) (by kernel_rfl) (by kernel_rfl) (by kernel_rfl) (by kernel_rfl) (fun _ _ _ h => h) (Or.inl ⟨by rfl, ?_⟩) hS ?_
      · intro w' hS'; have hS1 := hS'.1; have hS2 := hS'.2; clear hS'; go_simp
      refine wpAnyL_take 4 (v := .pointer (some ⟨bl, 0, none⟩)) rfl (by kernel_rfl) (by kernel_rfl) (by kernel_rfl) (by kernel_rfl) (by kernel_rfl) (fun _ _ _ h => h) (Or.inl ⟨by rfl, ?_⟩) hS ?_
      · intro w' hS'; have hS1 := hS'.1; have hS2 := hS'.2; clear hS'; go_simp
      refine wpAnyL_take 5 (v := .slice sa q scap) rfl (by kernel_rfl) (by kernel_rfl) (by kernel_rfl) (by kernel_rfl) (by kernel_rfl) (fun _ _ _ h => h) (Or.inl ⟨by rfl, ?_⟩) hS ?_
      · intro w' hS'; have hS1 := hS'.1; have hS2 := hS'.2; clear hS'; go_simp
      refine wpAnyL_take 6 (v := .int .i64 (x : Int)) rfl (by kernel_rfl) (by kernel_rfl) (by kernel_rfl) (by kernel_rfl) (by kernel_rfl) (fun _ _ _ h => h) (Or.inl ⟨by rfl, ?_⟩) hS ?_
      · intro w' hS'; have hS1 := hS'.1; have hS2 := hS'.2; clear hS'; go_simp
      refine wpAnyL_one 7 rfl (by kernel_rfl) (fun K hK => ?_)
      go_simp
      refine hK _ _ (Or.inr hS') ?_
      clear hK K
      refine wpAnyL_one 8 rfl (by kernel_rfl) (fun K hK => ?_)
      refine step_append_lies _ (by rfl) _ _ _ (by rfl) (w.heap.size + 3) 3 i0 (.int .i64 0) 1 8 Try.underlying35 hi hz0 hz1 hz2 rfl (by decide) (.slice sa q scap) q _ (by rfl) HNW.out.drew ⟨W.heap.size, 0, none⟩ 1 1 [.int .i64 (x : Int)] (by rfl) (by rfl) (World.news_of_block (cs := #[.int .i64 (x : Int)]) (t := 3) (fr := (0, 0)) (heap_alloc_new W _)) (by simp [Value.oneCell']) (by decide) (by unfold maxLen; omega) (by omega) (by simp; omega) (W.heap.size + 1) (by simp) ?_
      intro gg cap w1 hown1 hgrow hat hlt1
      have hrow : ∀ k, (Value.slice sa q scap).ownBlock = some k → w.heap.size + 3 ≤ k := fun k e => (World.ownsRow.lt HNW.out k e).1
      have hS1 : (fun w' : World => w'.cell? ⟨w.heap.size, 0, none⟩ = some (.pointer (some ⟨bl, 0, none⟩)) ∧ w'.cell? ⟨bl, 0, none⟩ = some (.slice sa q scap)) w1 := ⟨hgrow.cell hS'.1 (fun e => by have := hrow _ e.symm; simp at this; omega), hgrow.cell hS'.2 (fun e => HNB.out e.symm)⟩
      refine hK _ _ (Or.inr hS1) ?_
      clear hK K
      refine wpAnyL_one 9 rfl (by kernel_rfl) (fun K hK => ?_)
      go_simp
      refine hK _ _ (Or.inl (by kernel_rfl)) ?_
      clear hK K
      refine wpAnyL_one 10 rfl (by kernel_rfl) (fun K hK => ?_)
      go_simp
      refine hK _ _ (Or.inl (by kernel_rfl)) ?_
      clear hK K
      refine wpAnyL_one 11 rfl (by kernel_rfl) (fun K hK => ?_)
      go_simp
      refine hK _ _ (Or.inl (by kernel_rfl)) ?_
      clear hK K
      refine wpAnyL_one 12 rfl (by kernel_rfl) (fun K hK => ?_)
      have ho1 : ObjAt w1 bl 66 1031 (progC (.slice sa q scap) (.slice none 0 0) false false d0 bv bs so y) := (hgrow.block bl (by simp; omega) (fun e => HNB.out e.symm)).trans (HO.out.alloc _)
      have hfz1 : w1.frozen? ⟨bl, 0, none⟩ = false := ho1.frozen 0
      have hce1 := hS1.2
      go_simp
      refine hK _ _ (Or.inl (by kernel_rfl)) ?_
      clear hK K
      refine wpAnyL_done (by kernel_rfl) ?_ _
      have hq1 : (pre ++ [x]).length = q + 1 := by rw [List.length_append, ← HQ.out]; rfl
      have hneg : (Value.slice (some ⟨gg, 0, none⟩) (q + 1) cap).ownBlock ≠ some bl := ownsRow_ne hown1 ho1 (by decide)
      have hown2 : OwnI (w.heap.size + 3) w1 (.slice (some ⟨gg, 0, none⟩) (q + 1) cap) (ints (pre ++ [x])) := by
        unfold OwnI
        rw [ints_len, hq1, show (ints (pre ++ [x])).map iv = (ints pre).map iv ++ [.int .i64 (x : Int)] by simp [ints, iv]]
        exact hown1
      have hcell : ∀ i, i < W.heap.size → some i ≠ (Value.slice sa q scap).ownBlock → w1.heap[i]? = W.heap[i]? := fun i hi hne => (hgrow.block i (by simp; omega) hne).trans (Below.heap_alloc W _ i hi)
      refine ⟨(KeepsOthers.from (((KeepsOthers.alloc W _).trans (KeepsOthers.drew _)).trans ((keeps_append HNW.out.drew hgrow).trans (KeepsOthers.setCell _ _ _))) _), ⟨?_, ?_, ?_⟩, ⟨⟨_, ?_, (Chg.setCell bl 0 _ _).but.own hown2 hneg⟩, ?_, ?_, ?_⟩, ?_⟩
      · have := hgrow.size; simp at this ⊢; omega
      · intro i hi hne
        exact (Below.heap_setCell w1 ⟨bl, 0, none⟩ _ i hne).trans (hcell i (by omega) (fun e => by have := hrow i e.symm; omega))
      · intro i h1 h2
        refine (World.cell?_setCell_other _ _ _ _ (fun e => by have := congrArg Addr.off e; simp at this; omega)).trans ?_
        exact World.cell?_of_block (hcell bl hblW (fun e => HNB.out e.symm))
      · have h := ho1.set 0 (.slice (some ⟨gg, 0, none⟩) (q + 1) cap)
        rw [prog_of_line (line_upd_fv _ (.slice (some ⟨gg, 0, none⟩) (q + 1) cap) _ _ _ _) (by omega)] at h
        exact h
      · exact (Chg.setCell bl 0 w1 _).but.cell hS1.1 (by show w.heap.size ≠ bl; omega)
      · exact (((HBU.out.alloc _).drewN 1).grown hgrow (fun k e => by have := hrow k e; omega)).setCell _ _
      · have := hgrow.size; simp at this ⊢; omega
      · have := H32.out; omega
  case done =>
    rintro D ys W hD hys ⟨⟨⟨v, hobj, hown⟩, hbox, hbut, hszW⟩, hlen⟩ hK
    have HYS := Lib.hid (show ys = M.cands first y from hys)
    clear hys
    gi_wp2
    refine ⟨by simp, .inl ⟨_, _, rfl, run_takeDeferred hK, ?_⟩⟩
    obtain ⟨⟨v2, ho2, hw2⟩, -, hb2, -⟩ := FindI.grown (Bm := w.heap.size + 3) ⟨⟨v, hobj, hown⟩, hbox, hbut, hszW⟩ (grownBy_putObj' W D (.deferred none)) (fun r e => by cases e; exact ⟨by omega, _, hK, rfl⟩) (by omega)
    refine ⟨_, results_none rfl _ _ _, rfl, v2, ?_, ?_, hb2⟩
    · rw [show M.over first y = false from decide_eq_false (by rw [← HYS.out]; omega)]; exact ho2
    · rw [show M.found first y = ys from by unfold Mem.found; rw [← HYS.out]; exact List.take_of_length_le hlen]; exact hw2.mono (by omega)
  case stop =>
    rintro D c pre W hD hpre ⟨hcr, hlen, ⟨⟨v, hobj, hown⟩, hbox, hbut, hszW⟩⟩ hK
    have hcr' : c = .ret := hcr
    subst hcr'
    have HPRE := Lib.hid (show pre <+: M.cands first y from hpre)
    clear hpre hcr
    gi_wp2
    refine ⟨by simp, .inl ⟨_, _, rfl, run_takeDeferred hK, ?_⟩⟩
    obtain ⟨⟨v2, ho2, hw2⟩, -, hb2, -⟩ := FindI.grown (Bm := w.heap.size + 3) ⟨⟨v, hobj, hown⟩, hbox, hbut, hszW⟩ (grownBy_putObj' W D (.deferred none)) (fun r e => by cases e; exact ⟨by omega, _, hK, rfl⟩) (by omega)
    obtain ⟨r, hr⟩ := HPRE.out
    refine ⟨_, results_none rfl _ _ _, rfl, v2, ?_, ?_, hb2⟩
    · rw [show M.over first y = true from decide_eq_true (by rw [← hr, List.length_append]; omega)]; exact ho2
    · rw [show M.found first y = pre.take 32 from by unfold Mem.found; rw [← hr, List.take_append_of_le_length (by omega)]]; exact hw2.mono (by omega)
end Go.Proofs.Ytoaecfaackkicaa
