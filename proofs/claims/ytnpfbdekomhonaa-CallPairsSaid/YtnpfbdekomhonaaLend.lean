/- 'Lend' of the ports. -/
import Derived.Test.YtnpfbdekomhonaaPrt5
import Derived.BigRegion
import Derived.RegionTactic
import Derived.IntWalk
import Derived.Deep.CutRange
namespace Go.Proofs.Ytnpfbdekomhonaa
open Go.RowKit Stv

def lendB (b : Bnd) (draw : Int) (i : Nat) : Bnd := ⟨b.kind, b.ip, 32768 + (draw + i) % 28232, false⟩

def LendPost (w : World) (pp pm : Nat) (P : List (Int × Bnd)) (id : Int) (b : Bnd) (draw : Int) (e : Ending) (w' : World) : Prop :=
  (mayErr P id ≠ 0 ∧ e = .returned (.tuple #[.int .u16 0, .int .i64 (mayErr P id)]) ∧ Grew w w') ∨
  (mayErr P id = 0 ∧ (∃ i : Nat, i < 28232 ∧ freeB P (lendB b draw i) = true ∧ (∀ j, j < i → freeB P (lendB b draw j) = false) ∧ e = .returned (.tuple #[.int .u16 (lendB b draw i).port, .int .i64 0]) ∧ PortsAt w' pp pm (mput P id (lendB b draw i)) ∧ Off (fun k => k = pm) w w')) ∨
  (mayErr P id = 0 ∧ (∀ i : Nat, i < 28232 → freeB P (lendB b draw i) = false) ∧ e = .returned (.tuple #[.int .u16 0, .int .i64 220]) ∧ Grew w w')

theorem cells_put {w : World} {b : Nat} {c : Array Value} {t : TypeId} (h : w.heap[b]? = some (.cells c t (0, 0))) (i : Nat) (v : Value) : (w.setCell ⟨b, i, none⟩ v).heap[b]? = some (.cells (c.setIfInBounds i v) t (0, 0)) := by
  simp only [World.setCell, Array.getElem?_modify, if_true, h, Option.map_some, Option.isSome_none, Bool.false_eq_true, if_false]

theorem map_not_cells' {P : Program} {kt : TypeId} {κ : Type} {C : KeyC P kt κ} {w : World} {b : Nat} {l : List (κ × Value)} (h : MapIs C w b l) {k : Nat} {c : Array Value} {t : TypeId} {f : Nat × Nat} (hk : w.heap[k]? = some (.cells c t f)) : k ≠ b := by
  rintro rfl
  obtain ⟨es, clock, hb, _⟩ := h
  rw [hk] at hb; cases hb
theorem grew_of_new {w w' : World} (ho : Off (fun q => w.heap.size ≤ q) w w') : Grew w w' := ⟨ho.os, ho.tape, ho.output, ho.size, fun k hk _ => ho.block k hk (by omega)⟩

set_option maxRecDepth 100000 in
set_option maxHeartbeats 4000000 in
theorem lend_any {w : World} {pp pm : Nat} {P : List (Int × Bnd)} (hP : PortsAt w pp pm P) {id : Int} (hid : (Lit.int .u64 id).wf = true) {b : Bnd} (hk : b.kind = 1 ∨ b.kind = 2) {draw : Int} (hd0 : 0 ≤ draw) (hd1 : draw ≤ 65535) :
    Calls Try.prog 45 #[.pointer (some ⟨pp, 0, none⟩), .int .u64 id, b.val, .int .u16 draw] w (LendPost w pp pm P id b draw) := by
  have hmay := may_any (hP.off (grew_alloc w (.cells b.cells 46)) (fun h => h) fun h => h) hid hk false (fun h => by cases h)
  obtain ⟨bk, bi, bp, bs⟩ := b
  have hv : Bnd.val ⟨bk, bi, bp, bs⟩ = .agg #[.int .u8 bk, .int .u32 bi, .int .u16 bp, .bool bs] := rfl
  have hc : Bnd.cells ⟨bk, bi, bp, bs⟩ = #[.int .u8 bk, .int .u32 bi, .int .u16 bp, .bool bs] := rfl
  rw [hv] at hmay ⊢
  rw [hc] at hmay
  have HP := Lib.hid hP
  by_cases hm0 : mayErr P id = 0
  · have HM0 := Lib.hid hm0
    rw [hm0] at hmay
    have HMay := Lib.hid hmay
    clear hmay hk hv hc hP hm0
    go_enter Try.func45, Try.ntmps45
    go_wp2_with fail
    refine HMay.out.mono ?_
    rintro e w1 ⟨rfl, hg1⟩
    have hb1 : w1.heap[w.heap.size]? = some (.cells #[.int .u8 bk, .int .u32 bi, .int .u16 bp, .bool bs] 46 (0, 0)) := (hg1.block _ (by simp) fun h => h).trans (MapKept.heap_alloc w _).1
    have q3 := cell_of hb1 3
    have f3 := frozen_of hb1 3
    simp only [List.getElem?_toArray, List.getElem?_cons_zero, List.getElem?_cons_succ] at q3
    have hb2 : Hid ((w1.setCell ⟨w.heap.size, 3, none⟩ (.bool false)).heap[w.heap.size]? = some (.cells #[.int .u8 bk, .int .u32 bi, .int .u16 bp, .bool false] 46 (0, 0))) := Lib.hid (cells_put hb1 3 (.bool false))
    have ho2 : Hid (Off (fun q => w.heap.size ≤ q) w (w1.setCell ⟨w.heap.size, 3, none⟩ (.bool false))) := Lib.hid (Off.setCell (S := fun q => w.heap.size ≤ q) (p := ⟨w.heap.size, 3, none⟩) (((grew_alloc w _).trans hg1).mono fun _ _ h => h.elim) (.inl (Nat.le_refl _)) _)
    clear hg1 hb1
    go_wp2_with fail
    clear q3 f3
    generalize w1.setCell ⟨w.heap.size, 3, none⟩ (.bool false) = w2 at *
    go_loopw [20] (fun iv wr => ∃ (k : Nat) (p : Int), k ≤ 28232 ∧ iv = .int .i64 k ∧ Off (fun q => w.heap.size ≤ q) w wr ∧ wr.heap[w.heap.size]? = some (.cells #[.int .u8 bk, .int .u32 bi, .int .u16 p, .bool false] 46 (0, 0)) ∧ Hid (∀ j, j < k → freeB P (lendB ⟨bk, bi, bp, bs⟩ draw j) = false)) (fun iv _ => 28232 - (intOf iv).toNat)
    case atStart => exact ⟨0, bp, by omega, rfl, ho2.out, hb2.out, Lib.hid fun j hj => by omega⟩
    case round =>
      obtain ⟨k, p, hk, rfl, ho, hb, hf⟩ := hrel
      by_cases hlt : k < 28232
      · have q2 := cell_of hb 2
        have f2 := frozen_of hb 2
        simp only [List.getElem?_toArray, List.getElem?_cons_zero, List.getElem?_cons_succ] at q2
        obtain ⟨x, hx⟩ : ∃ x, 32768 + (draw + k) % 28232 = x := ⟨_, rfl⟩
        have hx0 : 0 ≤ x := by omega
        have hx1 : x ≤ 65535 := by omega
        have hw : IntKind.u16.wrap (32768 + (draw + k) % 28232) = 32768 + (draw + k) % 28232 := IntWalk.u16_in _ (by omega)
        have hb3 : Hid ((wr.setCell ⟨w.heap.size, 2, none⟩ (.int .u16 x)).heap[w.heap.size]? = some (.cells #[.int .u8 bk, .int .u32 bi, .int .u16 x, .bool false] 46 (0, 0))) := Lib.hid (cells_put hb 2 (.int .u16 x))
        have ho3 : Hid (Off (fun q => w.heap.size ≤ q) w (wr.setCell ⟨w.heap.size, 2, none⟩ (.int .u16 x))) := Lib.hid (Off.setCell (S := fun q => w.heap.size ≤ q) (p := ⟨w.heap.size, 2, none⟩) ho (.inl (Nat.le_refl _)) _)
        have HF := hf
        have HX := Lib.hid hx
        have hlt1 : (k : Int) < 28232 := by omega
        have HLt := Lib.hid hlt
        clear hb ho hf hx hw hlt hk
        go_upto_region 8 with fail
        go_upto_region 9 with fail
        rw [HX.out]
        clear q2 f2
        generalize wr.setCell ⟨w.heap.size, 2, none⟩ (.int .u16 x) = w3 at *
        have q0 := cell_of hb3.out 0
        have q1 := cell_of hb3.out 1
        have q2 := cell_of hb3.out 2
        have q3 := cell_of hb3.out 3
        simp only [List.getElem?_toArray, List.getElem?_cons_zero, List.getElem?_cons_succ] at q0 q1 q2 q3
        have hpl := HP.out.lt
        have hml := HP.out.map.lt
        have hP3 := HP.out.off ho3.out (by omega) (by omega)
        have hfr := free_any hP3 ⟨bk, bi, x, false⟩
        have hvx : Bnd.val ⟨bk, bi, x, false⟩ = .agg #[.int .u8 bk, .int .u32 bi, .int .u16 x, .bool false] := rfl
        rw [hvx] at hfr
        have HVx := Lib.hid hvx
        have hlx : lendB ⟨bk, bi, bp, bs⟩ draw k = ⟨bk, bi, x, false⟩ := by unfold lendB; rw [HX.out]
        have HLx := Lib.hid hlx
        have HP3 := Lib.hid hP3
        clear hvx hlx hP3 hpl hml hx0 hx1
        cases hff : freeB P ⟨bk, bi, x, false⟩ with
        | true =>
          rw [hff] at hfr
          have HFr := Lib.hid hfr
          have HFF := Lib.hid hff
          clear hfr hff
          go_wp2_with fail
          refine HFr.out.mono ?_
          rintro e w4 ⟨rfl, hg4⟩
          have hb4 := (hg4.block _ (Array.getElem?_eq_some_iff.1 hb3.out).1 fun h => h).trans hb3.out
          have hP4 := HP3.out.off hg4 (fun h => h) fun h => h
          have c0 := hP4.c0
          have b0 := cell_of hb4 0
          have b1 := cell_of hb4 1
          have b2 := cell_of hb4 2
          have b3 := cell_of hb4 3
          simp only [List.getElem?_toArray, List.getElem?_cons_zero, List.getElem?_cons_succ] at b0 b1 b2 b3
          obtain ⟨w5, hrun, hmap, hturn⟩ := (hP4.map.of_block (w' := w4.drew) rfl).update (t := 109) (e := 46) Try.underlying109 (k := id) hid (Bnd.val ⟨bk, bi, x, false⟩)
          rw [HVx.out] at hrun
          change (Instr.mapUpdate 109 (.map (some pm)) (.int .u64 id) (.agg #[.int .u8 bk, .int .u32 bi, .int .u16 x, .bool false])).run Try.prog _ = _ at hrun
          have HFin : Hid (∃ i : Nat, i < 28232 ∧ freeB P (lendB ⟨bk, bi, bp, bs⟩ draw i) = true ∧ (∀ j, j < i → freeB P (lendB ⟨bk, bi, bp, bs⟩ draw j) = false) ∧ x = (lendB ⟨bk, bi, bp, bs⟩ draw i).port ∧ PortsAt w5 pp pm (mput P id (lendB ⟨bk, bi, bp, bs⟩ draw i)) ∧ Off (fun k => k = pm) w w5) := by
            have h1 := HP.out.lt
            have h2 := HP.out.map.lt
            have ho5 : Off (fun k => k = pm ∨ w.heap.size ≤ k) w w5 := (((ho3.out.next hg4 fun _ h => h.elim).mono fun _ _ h => .inr h).drew).turned hturn (.inl (.inl rfl))
            refine Lib.hid ⟨k, HLt.out, by rw [HLx.out]; exact HFF.out, HF.out, by rw [HLx.out], ⟨(ho5.block pp h1 (by have := HP.out.ne; omega)).trans HP.out.self, ?_⟩, ⟨ho5.os, ho5.tape, ho5.output, ho5.size, fun q hq hne => ho5.block q hq (by omega)⟩⟩
            rw [HLx.out, ← pairs_put]; exact hmap
          have c2' : w5.cell? ⟨w.heap.size, 2, none⟩ = some (.int .u16 x) := cell_of ((turned_block hturn (map_not_cells' hP4.map hb4)).trans hb4) 2
          have HC2 := Lib.hid c2'
          clear hg4 hb4 hP4 hmap hturn c2' q0 q1 q2 q3
          go_wp2_with fail
          go_region
          have c2' := HC2.out
          clear hrun c0 b0 b1 b2 b3
          go_wp2_with fail
          go_ret2
          obtain ⟨i, h1, h2, h3, h4, h5, h6⟩ := HFin.out
          exact .inr (.inl ⟨HM0.out, i, h1, h2, h3, by rw [← h4]; rfl, h5, h6⟩)
        | false =>
          rw [hff] at hfr
          have HFr := Lib.hid hfr
          have HFF := Lib.hid hff
          clear hfr hff
          go_wp2_with fail
          refine HFr.out.mono ?_
          rintro e w4 ⟨rfl, hg4⟩
          have hb4 := Lib.hid ((hg4.block _ (Array.getElem?_eq_some_iff.1 hb3.out).1 fun h => h).trans hb3.out)
          have HG4 := Lib.hid hg4
          clear hg4 q0 q1 q2 q3
          go_wp2_with fail
          go_roundw
          case rel =>
            have hlt := HLt.out
            refine ⟨k + 1, x, by omega, by go_num, ho3.out.next HG4.out fun _ h => h.elim, hb4.out, Lib.hid fun j hj => ?_⟩
            by_cases hjk : j < k
            · exact HF.out j hjk
            · obtain rfl : j = k := by omega
              rw [HLx.out]; exact HFF.out
          case measure =>
            have hlt := HLt.out
            simp [intOf]; omega
      · have hge : ¬ (k : Int) < 28232 := by omega
        have HAll : Hid (∀ i : Nat, i < 28232 → freeB P (lendB ⟨bk, bi, bp, bs⟩ draw i) = false) := Lib.hid fun i hi => hf.out i (by omega)
        have HO := Lib.hid ho
        clear hk hlt hf ho hb
        go_wp2_with fail
        go_ret2
        exact .inr (.inr ⟨HM0.out, HAll.out, rfl, grew_of_new HO.out⟩)
  · have HM0 := Lib.hid hm0
    have HMay := Lib.hid hmay
    have hne : (mayErr P id != 0) = true := by simpa using hm0
    have hne2 : (mayErr P id == 0) = false := by simpa using hm0
    clear hmay hk hv hc hP hm0
    go_enter Try.func45, Try.ntmps45
    go_wp2_with fail
    refine HMay.out.mono ?_
    rintro e w1 ⟨rfl, hg1⟩
    have HG := Lib.hid ((grew_alloc _ _).trans hg1)
    clear hg1
    go_wp2_with fail
    go_ret2
    exact .inl ⟨HM0.out, rfl, HG.out⟩
end Go.Proofs.Ytnpfbdekomhonaa
