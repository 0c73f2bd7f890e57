/- 'puts', 'opens', 'Born', 'Socket', 'Look', 'File', 'Desk' of the table. -/
import Derived.Test.YtnpfbdekomhonaaTab1
import Derived.Lib.Hide
import Derived.Deep.QuietTactic
import Derived.BigQuiet
import Derived.BigRegion
import Derived.RegionTactic
namespace Go.Proofs.Ytnpfbdekomhonaa
open Go.RowKit Stv

theorem zero42 (w : World) : (zeroValue 42).run Try.prog w = .ok (.agg #[.int .u8 0, .int .u8 0, .int .u64 0, .bool false]) w := by kernel_rfl
theorem zero82 (w : World) : (zeroValue 82).run Try.prog w = .ok (.pointer none) w := by kernel_rfl

/-! ### the least descriptor that is free -/
def lfdFrom (F : List (Int × FileV)) : Nat → Nat → Nat
  | 0, k => k
  | n + 1, k => match mget F (k : Int) with
    | none => k
    | some _ => lfdFrom F n (k + 1)
def lfd (F : List (Int × FileV)) : Nat := lfdFrom F F.length 0

theorem lfdFrom_spec (F : List (Int × FileV)) : ∀ (n k : Nat), (∀ j : Nat, j < k → mget F (j : Int) ≠ none) → (∀ j : Nat, j < lfdFrom F n k → mget F (j : Int) ≠ none) ∧ (mget F (lfdFrom F n k : Int) = none ∨ lfdFrom F n k = k + n) := by
  intro n
  induction n with
  | zero => intro k h; exact ⟨h, .inr rfl⟩
  | succ n ih =>
    intro k h
    simp only [lfdFrom]
    split
    · rename_i hn; exact ⟨h, .inl hn⟩
    · rename_i hs
      obtain ⟨h1, h2⟩ := ih (k + 1) fun j hj => by
        by_cases e : j = k
        · subst e; rw [hs]; simp
        · exact h j (by omega)
      exact ⟨h1, h2.imp id fun h => by omega⟩

theorem nodup_natRange (n : Nat) : ((List.range n).map (fun k : Nat => (k : Int))).Nodup := by
  rw [List.Nodup, List.pairwise_map]
  exact List.nodup_range.imp fun {a b} h e => h (by omega)
theorem lfd_spec (F : List (Int × FileV)) : mget F (lfd F : Int) = none ∧ (∀ j : Nat, j < lfd F → mget F (j : Int) ≠ none) ∧ lfd F ≤ F.length := by
  obtain ⟨h1, h2⟩ := lfdFrom_spec F F.length 0 (fun j hj => by omega)
  have hle : lfd F ≤ F.length := by
    have := nodup_len ((List.range (lfd F)).map (fun k : Nat => (k : Int))) (F.map (·.1)) (nodup_natRange _) fun i hi => by
      obtain ⟨j, hj, rfl⟩ := List.mem_map.1 hi
      have := h1 j (List.mem_range.1 hj)
      cases hg : mget F (j : Int) with
      | none => exact absurd hg this
      | some x => exact List.mem_map.2 ⟨_, mget_mem hg, rfl⟩
    simpa using this
  refine ⟨?_, h1, hle⟩
  rcases h2 with h | h
  · exact h
  · have hlf : lfd F = F.length := by unfold lfd; omega
    rw [hlf]
    cases hg : mget F (F.length : Int) with
    | none => rfl
    | some x =>
      exfalso
      have := nodup_len ((List.range (F.length + 1)).map (fun k : Nat => (k : Int))) (F.map (·.1)) (nodup_natRange _) fun i hi => by
        obtain ⟨j, hj, rfl⟩ := List.mem_map.1 hi
        have hj' := List.mem_range.1 hj
        by_cases e : j = F.length
        · subst e; exact List.mem_map.2 ⟨_, mget_mem hg, rfl⟩
        · have := h1 j (by unfold lfd at hlf; omega)
          cases hg2 : mget F (j : Int) with
          | none => exact absurd hg2 this
          | some x => exact List.mem_map.2 ⟨_, mget_mem hg2, rfl⟩
      simp at this
      omega

theorem i64wf {n : Int} (h0 : -9223372036854775808 ≤ n) (h1 : n ≤ 9223372036854775807) : (Lit.int .i64 n).wf = true := by
  have e1 : IntKind.i64.min = -9223372036854775808 := by decide
  have e2 : IntKind.i64.max = 9223372036854775807 := by decide
  simp only [Lit.wf, Bool.and_eq_true, decide_eq_true_eq]
  omega
theorem u64wf {n : Int} (h0 : 0 ≤ n) (h1 : n ≤ 18446744073709551615) : (Lit.int .u64 n).wf = true := WalkArith.wf_u64 ⟨h0, h1⟩

section
variable {w : World} {t fm sm pp pm : Nat} {ownv : Value} {most last : Int} {own : List Int} {F : List (Int × FileV)} {L : List (Int × (Nat × DeskV))} {P : List (Int × Bnd)}

set_option maxRecDepth 100000 in
set_option maxHeartbeats 1000000 in
theorem born_any (h : TabAt w t fm sm pp pm ownv most last own F L P) (h0 : 0 ≤ last) (h1 : last ≤ 1000000) :
    Calls Try.prog 11 #[.pointer (some ⟨t, 0, none⟩)] w fun e w' => e = .returned (.int .u64 (last + 1)) ∧ TabAt w' t fm sm pp pm ownv most (last + 1) own F L P ∧ Off (fun k => k = t) w w' ∧ w'.heap.size = w.heap.size := by
  have m1 := fun w => run_eql_map_nil (P := Try.prog) w 75 3 42 (some fm) Try.underlying75
  have g2 := h.c2
  have g5 := h.c5
  have f5 := h.f 5
  have HS := Lib.hid (h.setLast (last + 1))
  have g6 := World.cell?_setCell_same' w ⟨t, 5, none⟩ (.int .u64 (last + 1)) (by rw [g5]; rfl)
  clear h
  go_enter Try.func11, Try.ntmps11
  go_wp2
  go_ret
  exact ⟨rfl, HS.out.1, HS.out.2, by simp⟩

set_option maxRecDepth 100000 in
set_option maxHeartbeats 1000000 in
theorem puts_any (h : TabAt w t fm sm pp pm ownv most last own F L P) (hF : F.length ≤ 1000000) (f : FileV) :
    Calls Try.prog 34 #[.pointer (some ⟨t, 0, none⟩), f.val] w fun e w' => e = .returned (.int .i64 (lfd F)) ∧ TabAt w' t fm sm pp pm ownv most last own (mput F (lfd F) f) L P ∧ Off (fun k => k = fm) w w' := by
  obtain ⟨hs1, hs2, hs3⟩ := lfd_spec F
  obtain ⟨q, hq⟩ : ∃ q, lfd F = q := ⟨_, rfl⟩
  rw [hq] at hs1 hs2 hs3 ⊢
  obtain ⟨fk, fp, fi, fc⟩ := f
  have hv : FileV.val ⟨fk, fp, fi, fc⟩ = .agg #[.int .u8 fk, .int .u8 fp, .int .u64 fi, .bool fc] := rfl
  rw [hv]
  have HV := Lib.hid hv
  have H := Lib.hid h
  have HS1 := Lib.hid hs1
  have HS2 := Lib.hid hs2
  clear h hs1 hs2 hq hv
  go_enter Try.func34, Try.ntmps34
  go_wp2
  go_loopw [5] (fun i wr => ∃ k : Nat, k ≤ q ∧ i = .int .i64 k ∧ Grew (w.alloc (.cells #[.int .u8 fk, .int .u8 fp, .int .u64 fi, .bool fc] 42)) wr) (fun i _ => q + 1 - (intOf i).toNat)
  case atStart => exact ⟨0, Nat.zero_le _, rfl, Off.refl _ _⟩
  case round =>
    obtain ⟨k, hk, rfl, hg⟩ := hrel
    have hg2 := (grew_alloc w _).trans hg
    have HT := H.out.grew hg2
    have c2 := HT.c2
    have HG := Lib.hid hg
    have HG2 := Lib.hid hg2
    have hkw : (Lit.int .i64 (k : Int)).wf = true := i64wf (by omega) (by omega)
    have hlk := HT.files.look (t := 75) (e := 42) Try.underlying75 (k := (k : Int)) hkw (zero42 _) true
    rw [vmap_get] at hlk
    have HTT := Lib.hid HT
    clear hg hg2 HT
    by_cases hkq : k < q
    · obtain ⟨x, hx⟩ : ∃ x, mget F (k : Int) = some x := by
        cases hg : mget F (k : Int) with
        | none => exact absurd hg (HS2.out k hkq)
        | some x => exact ⟨x, rfl⟩
      obtain ⟨xk, xp, xi, xc⟩ := x
      rw [hx] at hlk
      change (Instr.lookup 75 (.map (some fm)) (.int .i64 k) true).run Try.prog _ = .ok (.tuple #[.agg #[.int .u8 xk, .int .u8 xp, .int .u64 xi, .bool xc], .bool true]) _ at hlk
      clear hx
      go_wp2_with fail
      go_roundw
      case rel => exact ⟨k + 1, by omega, by go_num, HG.out.alloc _⟩
      case measure => simp [intOf]; omega
    · obtain rfl : k = q := by omega
      rw [HS1.out] at hlk
      change (Instr.lookup 75 (.map (some fm)) (.int .i64 k) true).run Try.prog _ = .ok (.tuple #[.agg #[.int .u8 0, .int .u8 0, .int .u64 0, .bool false], .bool false]) _ at hlk
      have hwb : (wr.alloc (.cells #[.int .u8 0, .int .u8 0, .int .u64 0, .bool false] 42)).heap[w.heap.size]? = some (.cells #[.int .u8 fk, .int .u8 fp, .int .u64 fi, .bool fc] 42 (0, 0)) := by
        rw [(HG.out.alloc _).block _ (by simp) fun h => h]
        exact (MapKept.heap_alloc w _).1
      obtain ⟨wd, hwd⟩ : ∃ x, x = wr.alloc (.cells #[.int .u8 0, .int .u8 0, .int .u64 0, .bool false] 42) := ⟨_, rfl⟩
      have b0 : wd.cell? ⟨w.heap.size, 0, none⟩ = some (.int .u8 fk) := by rw [hwd]; exact cell_of hwb 0
      have b1 : wd.cell? ⟨w.heap.size, 1, none⟩ = some (.int .u8 fp) := by rw [hwd]; exact cell_of hwb 1
      have b2 : wd.cell? ⟨w.heap.size, 2, none⟩ = some (.int .u64 fi) := by rw [hwd]; exact cell_of hwb 2
      have b3 : wd.cell? ⟨w.heap.size, 3, none⟩ = some (.bool fc) := by rw [hwd]; exact cell_of hwb 3
      have HTd : Hid (TabAt wd t fm sm pp pm ownv most last own F L P) := Lib.hid (by rw [hwd]; exact HTT.out.grew (grew_alloc _ _))
      have HGd : Hid (Grew w wd) := Lib.hid (by rw [hwd]; exact HG2.out.alloc _)
      have c2d := HTd.out.c2
      obtain ⟨w4, hrun, hmap, hturn⟩ := (HTd.out.files.of_block (w' := wd.drew) rfl).update (t := 75) (e := 42) Try.underlying75 (k := (k : Int)) hkw (FileV.val ⟨fk, fp, fi, fc⟩)
      rw [vmap_put] at hmap
      have HFin := Lib.hid ((HTd.out.grew ((Off.refl (fun _ => False) wd).drew)).turnFiles hmap hturn)
      rw [HV.out] at hrun
      change (Instr.mapUpdate 75 (.map (some fm)) (.int .i64 k) (.agg #[.int .u8 fk, .int .u8 fp, .int .u64 fi, .bool fc])).run Try.prog _ = _ at hrun
      have HRun := Lib.hid hrun
      have HC := Lib.hid (And.intro b0 (And.intro b1 (And.intro b2 (And.intro b3 c2d))))
      have HWd := Lib.hid hwd
      clear hwb b0 b1 b2 b3 c2d hmap hturn hrun hwd
      go_wp2_with fail
      rw [← HWd.out]
      obtain ⟨b0, b1, b2, b3, c2d⟩ := HC.out
      have hrun := HRun.out
      clear HWd HRun hlk c2 HTT HG2 HG
      go_region
      clear hrun
      go_wp2_with fail
      go_ret
      exact ⟨rfl, HFin.out.1, (HGd.out.drew.mono fun _ _ h => h.elim).trans HFin.out.2⟩

set_option maxRecDepth 100000 in
set_option maxHeartbeats 1000000 in
theorem opens_full (h : TabAt w t fm sm pp pm ownv most last own F L P) (hm : most ≤ F.length) (fk fp fi : Int) (fc : Bool) :
    Calls Try.prog 28 #[.pointer (some ⟨t, 0, none⟩), .agg #[.int .u8 fk, .int .u8 fp, .int .u64 fi, .bool fc]] w fun e w' => e = .returned (.tuple #[.int .i64 0, .int .u64 0, .int .i64 291]) ∧ Grew w w' := by
  have HT := h.grew (grew_alloc w (.cells #[.int .u8 fk, .int .u8 fp, .int .u64 fi, .bool fc] 42))
  have hl : ∀ n, (Builtin.len_ #[75] 3 #[.map (some fm)]).run Try.prog ((w.alloc (.cells #[.int .u8 fk, .int .u8 fp, .int .u64 fi, .bool fc] 42)).drewN n) = .ok (.int .i64 (F.length : Int)) ((w.alloc (.cells #[.int .u8 fk, .int .u8 fp, .int .u64 fi, .bool fc] 42)).drewN n) := fun n => by
    have := (HT.files.of_block (w' := (w.alloc (.cells #[.int .u8 fk, .int .u8 fp, .int .u64 fi, .bool fc] 42)).drewN n) rfl).len (t := 75) (e := 42) Try.underlying75 3
    simpa [vmap] using this
  have g0 := HT.c0
  have g2 := HT.c2
  clear h HT
  go_enter Try.func28, Try.ntmps28
  go_wp2
  go_quiet (fail)
  go_wp2
  go_ret3
  exact ⟨rfl, (grew_alloc _ _).drewN _⟩

/-- what 'opens' leaves of a file -/
def OpenPost (w : World) (t fm sm pp pm : Nat) (ownv : Value) (most last : Int) (own : List Int) (F : List (Int × FileV)) (L : List (Int × (Nat × DeskV))) (P : List (Int × Bnd)) (f : FileV) (e : Ending) (w' : World) : Prop :=
  e = .returned (.tuple #[.int .i64 (lfd F), .int .u64 (last + 1), .int .i64 0]) ∧ TabAt w' t fm sm pp pm ownv most (last + 1) own (mput F (lfd F) { f with id := last + 1 }) L P ∧ Off (fun k => k = t ∨ k = fm) w w'

set_option maxRecDepth 100000 in
set_option maxHeartbeats 2000000 in
theorem opens_ok (h : TabAt w t fm sm pp pm ownv most last own F L P) (hm : F.length < most) (hm2 : most ≤ 1000000) (h0 : 0 ≤ last) (h1 : last ≤ 1000000) (fk fp fi : Int) (fc : Bool) :
    Calls Try.prog 28 #[.pointer (some ⟨t, 0, none⟩), .agg #[.int .u8 fk, .int .u8 fp, .int .u64 fi, .bool fc]] w (OpenPost w t fm sm pp pm ownv most last own F L P ⟨fk, fp, fi, fc⟩) := by
  have HT := h.grew (grew_alloc w (.cells #[.int .u8 fk, .int .u8 fp, .int .u64 fi, .bool fc] 42))
  have hl : ∀ n, (Builtin.len_ #[75] 3 #[.map (some fm)]).run Try.prog ((w.alloc (.cells #[.int .u8 fk, .int .u8 fp, .int .u64 fi, .bool fc] 42)).drewN n) = .ok (.int .i64 (F.length : Int)) ((w.alloc (.cells #[.int .u8 fk, .int .u8 fp, .int .u64 fi, .bool fc] 42)).drewN n) := fun n => by
    have := (HT.files.of_block (w' := (w.alloc (.cells #[.int .u8 fk, .int .u8 fp, .int .u64 fi, .bool fc] 42)).drewN n) rfl).len (t := 75) (e := 42) Try.underlying75 3
    simpa [vmap] using this
  have g0 := HT.c0
  have g2 := HT.c2
  have hwt : w.heap.size ≠ t := by have := h.lt; omega
  have hwf : w.heap.size ≠ fm := by have := h.files.lt; omega
  have HH := Lib.hid h
  have HTT := Lib.hid HT
  have hbx : (w.alloc (.cells #[.int .u8 fk, .int .u8 fp, .int .u64 fi, .bool fc] 42)).heap[w.heap.size]? = some (.cells #[.int .u8 fk, .int .u8 fp, .int .u64 fi, .bool fc] 42 (0, 0)) := (MapKept.heap_alloc w _).1
  have HBx := Lib.hid hbx
  clear h HT hbx
  go_enter Try.func28, Try.ntmps28
  go_wp2
  go_quiet (fail)
  clear hl
  go_wp2_with fail
  refine (born_any (HTT.out.grew ((Off.refl (fun _ => False) _).drewN nq)) h0 h1).mono ?_
  rintro e w2 ⟨rfl, hT2, ho2, hs2⟩
  have hb2 : w2.heap[w.heap.size]? = some (.cells #[.int .u8 fk, .int .u8 fp, .int .u64 fi, .bool fc] 42 (0, 0)) := (ho2.block _ (by simp) hwt).trans HBx.out
  have q2 := cell_of hb2 2
  have q2f := frozen_of hb2 2
  simp only [List.getElem?_toArray, List.getElem?_cons_zero, List.getElem?_cons_succ] at q2
  have HT2 := Lib.hid hT2
  have HO2 := Lib.hid ho2
  have HB2 := Lib.hid hb2
  clear hT2 ho2 hs2 hb2 g0 g2
  go_wp2_with fail
  have hb3 : (w2.setCell ⟨w.heap.size, 2, none⟩ (.int .u64 (last + 1))).heap[w.heap.size]? = some (.cells #[.int .u8 fk, .int .u8 fp, .int .u64 (last + 1), .bool fc] 42 (0, 0)) := by
    simp only [World.setCell, Array.getElem?_modify, if_true, HB2.out]
    simp
  have HT3 : Hid (TabAt (w2.setCell ⟨w.heap.size, 2, none⟩ (.int .u64 (last + 1))) t fm sm pp pm ownv most (last + 1) own F L P) := Lib.hid (HT2.out.off ((Off.refl (fun k => k = w.heap.size) w2).setCell (p := ⟨w.heap.size, 2, none⟩) (.inl rfl) _) fun k hk e => by
    have := HH.out.blks_lt hk
    omega)
  have HO3 : Hid (Off (fun k => k = t) w (w2.setCell ⟨w.heap.size, 2, none⟩ (.int .u64 (last + 1)))) := Lib.hid ((((((grew_alloc w _).drewN nq).mono fun _ _ h => h.elim).trans HO2.out)).setCell (.inr (Nat.le_refl _)) _)
  generalize w2.setCell ⟨w.heap.size, 2, none⟩ (.int .u64 (last + 1)) = w3 at *
  have b0 := cell_of hb3 0
  have b1 := cell_of hb3 1
  have b2 := cell_of hb3 2
  have b3 := cell_of hb3 3
  simp only [List.getElem?_toArray, List.getElem?_cons_zero, List.getElem?_cons_succ] at b0 b1 b2 b3
  have HB3 := Lib.hid hb3
  clear hb3
  have HPuts : Hid (Calls Try.prog 34 #[.pointer (some ⟨t, 0, none⟩), .agg #[.int .u8 fk, .int .u8 fp, .int .u64 (last + 1), .bool fc]] w3.drew fun e w' => e = .returned (.int .i64 (lfd F)) ∧ (TabAt w' t fm sm pp pm ownv most (last + 1) own (mput F (lfd F) ⟨fk, fp, last + 1, fc⟩) L P ∧ Off (fun k => k = t ∨ k = fm) w w') ∧ w'.cell? ⟨w.heap.size, 2, none⟩ = some (.int .u64 (last + 1))) := by
    refine Lib.hid ((puts_any (HT3.out.grew ((Off.refl (fun _ => False) _).drew)) (by omega) ⟨fk, fp, last + 1, fc⟩).mono fun e w' ⟨h1, h2, h3⟩ => ⟨h1, ⟨h2, (HO3.out.drew.mono fun _ _ h => .inl h).next h3 fun _ h => .inl (.inr h)⟩, ?_⟩)
    exact cell_of ((h3.block _ (by have := HO3.out.size; have := (Array.getElem?_eq_some_iff.1 HB3.out).1; simpa using this) hwf).trans HB3.out) 2
  clear HBx HB2 HO2 HT2
  go_region_law (go_simp; go_at_call 34; refine HPuts.out.mono ?_; rintro e w' ⟨rfl, hT, hq⟩; have HT := Lib.hid hT; clear hT)
  all_goals go_wp2
  all_goals go_ret3
  all_goals exact ⟨rfl, HT.out⟩
end
end Go.Proofs.Ytnpfbdekomhonaa
