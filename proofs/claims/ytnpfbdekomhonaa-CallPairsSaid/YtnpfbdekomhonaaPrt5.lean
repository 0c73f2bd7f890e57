/- 'Bind' of the ports: where the place may be had. -/
import Derived.Test.YtnpfbdekomhonaaPrt4
namespace Go.Proofs.Ytnpfbdekomhonaa
open Go.RowKit Stv Go.Shelf
attribute [local go_sem] Oper.semAt_some

theorem conf_ways (bi xi : Int) (bk bp xk xp : Int) (bs xs : Bool) :
    (conf ⟨bk, bi, bp, bs⟩ ⟨xk, xi, xp, xs⟩ = true ∧ (xs = false ∨ (xs = true ∧ bs = false) ∨ (xs = true ∧ bs = true ∧ (xi == bi) = false))) ∨ (conf ⟨bk, bi, bp, bs⟩ ⟨xk, xi, xp, xs⟩ = false ∧ xs = true ∧ bs = true ∧ (xi == bi) = true) := by
  unfold conf
  rw [bne]
  cases xs <;> cases bs <;> cases (xi == bi) <;> simp

theorem box_facts {w w1 : World} {bk bi bp : Int} {bs : Bool} (hg : Grew ((w.alloc (.cells #[.int .u8 bk, .int .u32 bi, .int .u16 bp, .bool bs] 46)).alloc (.cells #[.int .i64 0] 27)) w1) :
    w1.cell? ⟨w.heap.size, 0, none⟩ = some (.int .u8 bk) ∧ w1.cell? ⟨w.heap.size, 1, none⟩ = some (.int .u32 bi) ∧ w1.cell? ⟨w.heap.size, 2, none⟩ = some (.int .u16 bp) ∧ w1.cell? ⟨w.heap.size, 3, none⟩ = some (.bool bs) ∧
      Hid (Grew w w1 ∧ w1.heap[w.heap.size]? = some (.cells #[.int .u8 bk, .int .u32 bi, .int .u16 bp, .bool bs] 46 (0, 0)) ∧ Boxed w1 (w.heap.size + 1) 27 (.int .i64 0) ∧ w.heap.size + 2 ≤ w1.heap.size) := by
  have hb1 : w1.heap[w.heap.size]? = some (.cells #[.int .u8 bk, .int .u32 bi, .int .u16 bp, .bool bs] 46) := by
    rw [hg.block _ (by simp; omega) (fun h => h), Below.heap_alloc _ _ _ (by simp)]
    exact (MapKept.heap_alloc w _).1
  have hr : Boxed w1 (w.heap.size + 1) 27 (.int .i64 0) := by
    have := Boxed.new (w.alloc (.cells #[.int .u8 bk, .int .u32 bi, .int .u16 bp, .bool bs] 46)) 27 (.int .i64 0)
    rw [World.size_alloc] at this
    exact (hg.block _ (by simp) fun h => h).trans this
  exact ⟨cell_of hb1 0, cell_of hb1 1, cell_of hb1 2, cell_of hb1 3, ((grew_alloc _ _).trans (grew_alloc _ _)).trans hg, hb1, hr, by have := hg.size; simp at this; omega⟩

set_option maxRecDepth 100000 in
set_option maxHeartbeats 4000000 in
theorem bind_go (pp pm : Nat) (P : List (Int × Bnd)) (b : Bnd) (id : Int) (hid : (Lit.int .u64 id).wf = true) (hk : b.kind = 1 ∨ b.kind = 2) (hpt : b.port ≠ 0) (w : World) (hP : PortsAt w pp pm P) (hm0 : mayErr P id = 0) :
    CallsIn Fence.wide 6 Try.prog 37 #[.pointer (some ⟨pp, 0, none⟩), .int .u64 id, b.val] w (BindPost w pp pm P id b) := by
  have hmay := may_any (hP.off ((grew_alloc w (.cells b.cells 46)).trans (grew_alloc _ (.cells #[.int .i64 0] 27))) (fun h => h) fun h => h) hid hk true (fun _ => hpt)
  rw [hm0] at hmay
  have h220 : Hid (∀ w', confB P b = true → Off (fun k => w.heap.size ≤ k) w w' → BindPost w pp pm P id b (.returned (.int .i64 220)) w') := Lib.hid fun w' hc ho => by
    have e : bindErr P id b = 220 := by unfold bindErr; rw [if_neg (by simp [hm0]), if_pos hc]
    refine ⟨by rw [e], ?_, ⟨ho.os, ho.tape, ho.output, ho.size, fun k hk _ => ho.block k hk (by omega)⟩⟩
    rw [e, if_neg (by decide)]
    exact hP.off ho (by have := hP.lt; omega) (by have := hP.map.lt; omega)
  have h000 : Hid (∀ w4 w', confB P b = false → Off (fun k => k = pm ∨ w.heap.size ≤ k) w w4 → MapIs KU w4 pm (mput (pairs P) id b.val) → Off (fun k => w.heap.size ≤ k) w4 w' → BindPost w pp pm P id b (.returned (.int .i64 0)) w') := Lib.hid fun w4 w' hc ho hm ho2 => by
    have e : bindErr P id b = 0 := by unfold bindErr; rw [if_neg (by simp [hm0]), if_neg (by simp [hc])]
    have ho3 := ho.next ho2 fun i hi => .inl (.inr hi)
    have h1 := hP.lt
    have h2 := hP.map.lt
    refine ⟨by rw [e], ?_, ⟨ho3.os, ho3.tape, ho3.output, ho3.size, fun k hk hne => ho3.block k hk (by omega)⟩⟩
    rw [e, if_pos rfl]
    exact ⟨(ho3.block pp h1 (by have := hP.ne; omega)).trans hP.self, by rw [← pairs_put]; exact ho2.map hm (by omega)⟩
  obtain ⟨bk, bi, bp, bs⟩ := b
  have hv : Bnd.val ⟨bk, bi, bp, bs⟩ = .agg #[.int .u8 bk, .int .u32 bi, .int .u16 bp, .bool bs] := rfl
  have hc : Bnd.cells ⟨bk, bi, bp, bs⟩ = #[.int .u8 bk, .int .u32 bi, .int .u16 bp, .bool bs] := rfl
  have hm1 := fun w => meetsF_in Fence.wide (6 - 1) trivial rfl (some ⟨pp, 0, none⟩) ⟨bk, bi, bp, bs⟩ w
  rw [hv] at hmay hm1 ⊢
  rw [hc] at hmay
  have HM1 := Lib.hid hm1
  have HMay := Lib.hid hmay
  have HP := Lib.hid hP
  have HV := Lib.hid hv
  clear hmay hk hpt hv hc hm0 hm1 hP
  refine callsIn_of_wp_marks Try.func37 rfl trivial ?_ rfl
  simp only [Try.ntmps37, List.size_toArray, List.length_cons, List.length_nil, Nat.reduceAdd, Nat.reduceSub, Array.replicate_succ, Array.replicate_zero, List.push_toArray, List.append_toArray, List.nil_append, List.cons_append]
  gi_wp2_with (refine ⟨trivial, ?_⟩; gi_at_call 63; refine (callsIn_wide.2 HMay.out).mono ?_; rintro e w1 ⟨rfl, hg1⟩; obtain ⟨q0, q1, q2, q3, HG1⟩ := box_facts hg1; clear hg1)
  refine ⟨trivial, ?_⟩
  refine (HM1.out _).mono ?_
  rintro e w' ⟨rfl, rfl⟩
  clear HMay HM1 q0 q1 q2 q3
  have HP0 : Hid (PortsAt ((w1.alloc (.cells #[.pointer (some ⟨pp, 0, none⟩)] 77)).alloc (.cells (Bnd.cells ⟨bk, bi, bp, bs⟩) 46)) pp pm P) := Lib.hid (HP.out.off ((HG1.out.1.alloc _).alloc _) (fun h => h) fun h => h)
  have HB0 : Hid (Below w.heap.size w ((w1.alloc (.cells #[.pointer (some ⟨pp, 0, none⟩)] 77)).alloc (.cells (Bnd.cells ⟨bk, bi, bp, bs⟩) 46))) := Lib.hid (((HG1.out.1.alloc _).alloc _).below (Nat.le_refl _) fun _ h => h.elim)
  have hsz : ((w1.alloc (.cells #[.pointer (some ⟨pp, 0, none⟩)] 77)).alloc (.cells (Bnd.cells ⟨bk, bi, bp, bs⟩) 46)).heap.size = w1.heap.size + 2 := by simp
  have hr0 : Boxed ((w1.alloc (.cells #[.pointer (some ⟨pp, 0, none⟩)] 77)).alloc (.cells (Bnd.cells ⟨bk, bi, bp, bs⟩) 46)) (w.heap.size + 1) 27 (.int .i64 0) := (HG1.out.2.2.1.alloc _).alloc _
  have hx0 : ((w1.alloc (.cells #[.pointer (some ⟨pp, 0, none⟩)] 77)).alloc (.cells (Bnd.cells ⟨bk, bi, bp, bs⟩) 46)).heap[w.heap.size]? = some (.cells #[.int .u8 bk, .int .u32 bi, .int .u16 bp, .bool bs] 46 (0, 0)) := by
    have h2 := HG1.out.2.2.2
    rw [Below.heap_alloc _ _ _ (by simp; omega), Below.heap_alloc _ _ _ (by omega)]; exact HG1.out.2.1
  have hp0 : ((w1.alloc (.cells #[.pointer (some ⟨pp, 0, none⟩)] 77)).alloc (.cells (Bnd.cells ⟨bk, bi, bp, bs⟩) 46)).cell? ⟨w1.heap.size, 0, none⟩ = some (.pointer (some ⟨pp, 0, none⟩)) :=
    ((Boxed.new w1 77 (.pointer (some ⟨pp, 0, none⟩))).alloc (.cells (Bnd.cells ⟨bk, bi, bp, bs⟩) 46)).cell
  have hb0 : ((w1.alloc (.cells #[.pointer (some ⟨pp, 0, none⟩)] 77)).alloc (.cells (Bnd.cells ⟨bk, bi, bp, bs⟩) 46)).heap[w1.heap.size + 1]? = some (.cells (Bnd.cells ⟨bk, bi, bp, bs⟩) 46) := by
    have := (MapKept.heap_alloc (w1.alloc (.cells #[.pointer (some ⟨pp, 0, none⟩)] 77)) (.cells (Bnd.cells ⟨bk, bi, bp, bs⟩) 46)).1
    rwa [World.size_alloc] at this
  have hrw : w.heap.size + 2 ≤ w1.heap.size := HG1.out.2.2.2
  generalize ((w1.alloc (.cells #[.pointer (some ⟨pp, 0, none⟩)] 77)).alloc (.cells (Bnd.cells ⟨bk, bi, bp, bs⟩) 46)) = W0 at *
  gi_wp2
  refine wpIn_rangeFunc_ownH rfl (by decide) (gf := 79) (lb := #[.pointer (some ⟨w1.heap.size, 0, none⟩), .pointer (some ⟨w1.heap.size + 1, 0, none⟩)]) rfl trivial (enters_of Try.func79 (by kernel_rfl) rfl)
    (meets_stops Fence.wide (6 - 1) trivial rfl (by decide) w1.heap.size (w1.heap.size + 1) pp pm P ⟨bk, bi, bp, bs⟩ W0 (by omega) (by omega) hp0 hb0 HP0.out) KW.t (KW.b (Nat.le_refl _)) (Below.refl _ _) (fun _ => rfl)
    (fun pre W => (∀ x ∈ pre, conf ⟨bk, bi, bp, bs⟩ x.2 = false) ∧ Below W0.heap.size W0 W)
    (fun c pre W => ((c = .ret ∧ ∃ x ∈ pre, conf ⟨bk, bi, bp, bs⟩ x.2 = true) ∧ Boxed W (w.heap.size + 1) 27 (.int .i64 220)) ∧ Below w.heap.size w W)
    (OwnFrom.and (ownFrom_pure _ (fun pre : List (Int × Bnd) => ∀ x ∈ pre, conf ⟨bk, bi, bp, bs⟩ x.2 = false)) (ownFrom_below (Nat.le_refl _) (Nat.le_refl _)))
    (fun c => OwnFrom.and (OwnFrom.and (ownFrom_pure _ (fun pre : List (Int × Bnd) => c = .ret ∧ ∃ x ∈ pre, conf ⟨bk, bi, bp, bs⟩ x.2 = true)) (Own.from (boxed_own _ _ _) _)) (ownFrom_below (Nat.le_refl _) (by omega)))
    ⟨by simp, Below.refl _ _⟩
    (fun x a' W => ∃ Bx, w.heap.size + 2 ≤ Bx ∧ W.heap[Bx]? = some (.cells x.2.cells 46 (0, 0)) ∧ a' = ({ tmps := #[.pointer (some ⟨pp, 0, none⟩), .int .u64 id, .agg #[.int .u8 bk, .int .u32 bi, .int .u16 bp, .bool bs], undef, undef, .pointer (some ⟨w.heap.size, 0, none⟩), .pointer (some ⟨w.heap.size + 1, 0, none⟩), .int .i64 0, undef, .pointer (some ⟨Bx, 0, none⟩), .pointer (some ⟨pp, 0, none⟩), .int .u64 id, .agg #[.int .u8 bk, .int .u32 bi, .int .u16 bp, .bool bs], .int .i64 0, .int .i64 0, .bool false, undef, .pointer (some ⟨pp, 0, none⟩), .agg #[.int .u8 bk, .int .u32 bi, .int .u16 bp, .bool bs], .func (.func 79) #[] #[.pointer (some ⟨w1.heap.size, 0, none⟩), .pointer (some ⟨w1.heap.size + 1, 0, none⟩)], .int .u64 x.1, x.2.val, undef, undef, undef, undef, undef, undef, undef, undef, undef, undef, undef, undef, undef, undef, undef, undef, undef, undef, undef, undef, undef], defers := [] } : Act))
    (fun x a' s A B row ⟨Bx, h1, h2, h3⟩ hg hr => ⟨Bx, h1, cells_kept h2 hg (fun r e => (hr r e).2), h3⟩) ?assign ?body ?done ?stop
  case assign =>
    rintro l pre ⟨xd, ⟨xk, xi, xp, xs⟩⟩ W K ⟨hcf, hB⟩ hK
    have hxv : Bnd.val ⟨xk, xi, xp, xs⟩ = .agg #[.int .u8 xk, .int .u32 xi, .int .u16 xp, .bool xs] := rfl
    dsimp only [encP]
    rw [hxv]
    have h1 := hB.size
    gi_wp2
    refine hK _ _ ((KeepsOthers.alloc _ _).from _) ⟨KeepsWalks.alloc _ _, (Below.refl _ W).alloc h1 _⟩ ⟨hcf, hB.alloc h1 _⟩ ⟨W.heap.size, by omega, (MapKept.heap_alloc W _).1, ?_⟩
    simp
    rfl
  case body =>
    rintro l pre ⟨xd, ⟨xk, xi, xp, xs⟩⟩ a' W hl ⟨rec, hrec⟩ ⟨hcf, hB⟩ ⟨Bx, hBx, hbx, rfl⟩ hlt
    have hxv : Bnd.val ⟨xk, xi, xp, xs⟩ = .agg #[.int .u8 xk, .int .u32 xi, .int .u16 xp, .bool xs] := rfl
    rw [hxv]
    have x1 : W.cell? ⟨Bx, 1, none⟩ = some (.int .u32 xi) := cell_of hbx 1
    have x3 : W.cell? ⟨Bx, 3, none⟩ = some (.bool xs) := cell_of hbx 3
    have hbw : W.heap[w.heap.size]? = some (.cells #[.int .u8 bk, .int .u32 bi, .int .u16 bp, .bool bs] 46 (0, 0)) := (hB.block _ (by omega)).trans hx0
    have b1 : W.cell? ⟨w.heap.size, 1, none⟩ = some (.int .u32 bi) := cell_of hbw 1
    have b3 : W.cell? ⟨w.heap.size, 3, none⟩ = some (.bool bs) := cell_of hbw 3
    have hr : Boxed W (w.heap.size + 1) 27 (.int .i64 0) := (hB.block _ hr0.lt).trans hr0
    have hc := hr.cell
    have hf := hr.frozen
    have HR := Lib.hid hr
    have HB := Lib.hid hB
    have HCf := Lib.hid hcf
    clear hr hbw hbx hrec hB hcf hxv
    rcases conf_ways bi xi bk bp xk xp bs xs with ⟨hcn, hw⟩ | ⟨hcn, h1, h2, h3⟩
    · have HC := Lib.hid hcn
      clear hcn
      rcases hw with h1 | ⟨h1, h2⟩ | ⟨h1, h2, h3⟩
      · subst h1
        gi_wp2
        exact ⟨(KeepsOthers.setCell _ _ _).from _, ⟨⟨rfl, (xd, ⟨xk, xi, xp, _⟩), by simp, HC.out⟩, HR.out.set _⟩, (HB0.out.trans (HB.out.mono HB0.out.size)).setCell (by simp) _⟩
      · subst h1; subst h2
        gi_wp2
        exact ⟨(KeepsOthers.setCell _ _ _).from _, ⟨⟨rfl, (xd, ⟨xk, xi, xp, _⟩), by simp, HC.out⟩, HR.out.set _⟩, (HB0.out.trans (HB.out.mono HB0.out.size)).setCell (by simp) _⟩
      · subst h1; subst h2
        have n3 := bne_of h3
        gi_wp2
        exact ⟨(KeepsOthers.setCell _ _ _).from _, ⟨⟨rfl, (xd, ⟨xk, xi, xp, _⟩), by simp, HC.out⟩, HR.out.set _⟩, (HB0.out.trans (HB.out.mono HB0.out.size)).setCell (by simp) _⟩
    · have HC := Lib.hid hcn
      subst h1; subst h2
      have n3 := bne_of h3
      clear hcn
      gi_wp2
      refine ⟨KeepsFrom.refl _ _, ⟨KeepsWalks.refl _, Below.refl _ _⟩, fun y hy => ?_, HB.out⟩
      rcases List.mem_append.1 hy with hy | hy
      · exact HCf.out y hy
      · have : y = (xd, ⟨xk, xi, xp, true⟩) := by simpa using hy
        subst this; exact HC.out
  case done =>
    rintro D ys W hD ⟨hS, _⟩ ⟨hcf, hB⟩ hK
    have hcB := confB_no hS hcf
    have hPW := HP0.out.off (grew_of_below hB) (fun h => h) fun h => h
    have c0 := hPW.c0
    have hbw : W.heap[w.heap.size]? = some (.cells #[.int .u8 bk, .int .u32 bi, .int .u16 bp, .bool bs] 46 (0, 0)) := (hB.block _ (by omega)).trans hx0
    have b0 : W.cell? ⟨w.heap.size, 0, none⟩ = some (.int .u8 bk) := cell_of hbw 0
    have b1 : W.cell? ⟨w.heap.size, 1, none⟩ = some (.int .u32 bi) := cell_of hbw 1
    have b2 : W.cell? ⟨w.heap.size, 2, none⟩ = some (.int .u16 bp) := cell_of hbw 2
    have b3 : W.cell? ⟨w.heap.size, 3, none⟩ = some (.bool bs) := cell_of hbw 3
    have hr : Boxed W (w.heap.size + 1) 27 (.int .i64 0) := (hB.block _ hr0.lt).trans hr0
    obtain ⟨w4, hrun, hmap, hturn⟩ := (hPW.map.of_block (w' := W.drew) rfl).update (t := 109) (e := 46) Try.underlying109 (k := id) hid (Bnd.val ⟨bk, bi, bp, bs⟩)
    rw [HV.out] at hrun
    change (Instr.mapUpdate 109 (.map (some pm)) (.int .u64 id) (.agg #[.int .u8 bk, .int .u32 bi, .int .u16 bp, .bool bs])).run Try.prog _ = _ at hrun
    have hrne : w.heap.size + 1 ≠ pm := by have := HP.out.map.lt; omega
    have hr4 : Boxed w4 (w.heap.size + 1) 27 (.int .i64 0) := (turned_block hturn hrne).trans hr
    have hK4 : w4.heap[D]? = some (.deferred (some [])) := (turned_block hturn (by have := HP.out.map.lt; omega)).trans hK
    have HR4 := Lib.hid hr4
    have HK4 := Lib.hid hK4
    have HMap := Lib.hid hmap
    have HTurn := Lib.hid hturn
    have HB := Lib.hid hB
    have HcB := Lib.hid hcB
    clear hPW hbw hr hr4 hK4 hmap hturn hB hcB hcf hS hp0 hb0 hx0 hr0
    gi_wp2
    gi_region
    have hc := HR4.out.cell
    have hf := HR4.out.frozen
    gi_wp2
    have hK' := (KeepsOthers.setCell w4 ⟨w.heap.size + 1, 0, none⟩ (.int .i64 0)).same D _ HK4.out rfl
    refine ⟨by simp, .inl ⟨_, _, rfl, run_takeDeferred hK', ?_⟩⟩
    have hc5 := cell_kept (World.cell?_setCell_same' w4 ⟨w.heap.size + 1, 0, none⟩ (.int .i64 0) (by rw [hc]; rfl)) (grownBy_putObj' _ D (.deferred none)) (fun r e => by cases e; exact ⟨_, hK', rfl⟩)
    refine ⟨.int .i64 0, ?_, ?_⟩
    · simp [results, Try.f37, go_sem, hc5]
    · refine h000.out w4 _ HcB.out ((((grew_of_below (HB0.out.trans (HB.out.mono HB0.out.size))).mono fun _ _ h => h.elim).drew).turned HTurn.out (.inl (.inl rfl))) HMap.out ?_
      exact ((Off.refl _ _).setCell (.inl (by simp)) _).grown (grownBy_putObj' _ D (.deferred none)) fun b hb => .inl (by cases hb; have := HB0.out.size; omega)
  case stop =>
    rintro D c pre W hD hSp ⟨⟨⟨rfl, x, hx, hcx⟩, hr⟩, hB⟩ hK
    have hcB := confB_yes (hSp x hx).1 (hSp x hx).2 hcx
    have hc := hr.cell
    gi_wp2
    refine ⟨by simp, .inl ⟨_, _, rfl, run_takeDeferred hK, ?_⟩⟩
    have hc5 := cell_kept hc (grownBy_putObj' _ D (.deferred none)) (fun r e => by cases e; exact ⟨_, hK, rfl⟩)
    refine ⟨.int .i64 220, ?_, ?_⟩
    · simp [results, Try.f37, go_sem, hc5]
    · have hb2 := hB.trans (belowK_b (w := w) (Nat.le_refl _) W D _ (.deferred none) (by omega) hK rfl rfl)
      exact h220.out _ hcB ((grew_of_below hb2).mono fun _ _ h => h.elim)
theorem bind_any {w : World} {pp pm : Nat} {P : List (Int × Bnd)} (hP : PortsAt w pp pm P) {id : Int} (hid : (Lit.int .u64 id).wf = true) {b : Bnd} (hk : b.kind = 1 ∨ b.kind = 2) (hpt : b.port ≠ 0) :
    Calls Try.prog 37 #[.pointer (some ⟨pp, 0, none⟩), .int .u64 id, b.val] w (BindPost w pp pm P id b) := by
  by_cases h : mayErr P id = 0
  · exact (callsIn_wide (n := 6)).1 (bind_go pp pm P b id hid hk hpt w hP h)
  · exact bind_may pp pm P b id hid hk hpt w hP h
end Go.Proofs.Ytnpfbdekomhonaa
