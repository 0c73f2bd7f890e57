/- The questions that 'asks' is handed. -/
import Derived.Test.YtnpfbdekomhonaaTab4
namespace Go.Proofs.Ytnpfbdekomhonaa
open Go.RowKit Stv


section
variable {w : World} {b : Nat} {d : DeskV}

/-- questions about a desk alone -/
theorem q_fresh (hd : w.heap[b]? = some (.cells d.cells 84 (0, 0))) : Calls Try.prog 35 #[.pointer (some ⟨b, 0, none⟩)] w fun e w' => e = .returned (.int .i64 (cond (d.is == 0) 3)) ∧ Grew w w' := by
  simp only [DeskV.cells] at hd
  have d1 : w.cell? ⟨b, 1, none⟩ = some (.int .u8 d.is) := cell_of hd 1
  clear hd
  generalize d.is = i at *
  go_enter Try.func35, Try.ntmps35
  go_wp2_with fail
  refine (unless_any _ _ _).mono ?_
  rintro e w' ⟨rfl, rfl⟩
  go_wp2_with fail
  go_ret
  exact ⟨rfl, Off.refl _ _⟩
theorem q_listens (hd : w.heap[b]? = some (.cells d.cells 84 (0, 0))) : Calls Try.prog 30 #[.pointer (some ⟨b, 0, none⟩)] w fun e w' => e = .returned (.int .i64 (cond (d.is == 2) 3)) ∧ Grew w w' := by
  simp only [DeskV.cells] at hd
  have d1 : w.cell? ⟨b, 1, none⟩ = some (.int .u8 d.is) := cell_of hd 1
  clear hd
  generalize d.is = i at *
  go_enter Try.func30, Try.ntmps30
  go_wp2_with fail
  refine (unless_any _ _ _).mono ?_
  rintro e w' ⟨rfl, rfl⟩
  go_wp2_with fail
  go_ret
  exact ⟨rfl, Off.refl _ _⟩
theorem q_tcp (hd : w.heap[b]? = some (.cells d.cells 84 (0, 0))) : Calls Try.prog 38 #[.pointer (some ⟨b, 0, none⟩)] w fun e w' => e = .returned (.int .i64 (cond (d.proto == 2) 2)) ∧ Grew w w' := by
  simp only [DeskV.cells] at hd
  have d1 : w.cell? ⟨b, 0, none⟩ = some (.int .u8 d.proto) := cell_of hd 0
  clear hd
  generalize d.proto = i at *
  go_enter Try.func38, Try.ntmps38
  go_wp2_with fail
  refine (unless_any _ _ _).mono ?_
  rintro e w' ⟨rfl, rfl⟩
  go_wp2_with fail
  go_ret
  exact ⟨rfl, Off.refl _ _⟩
theorem q_nopair (hd : w.heap[b]? = some (.cells d.cells 84 (0, 0))) : Calls Try.prog 39 #[.pointer (some ⟨b, 0, none⟩)] w fun e w' => e = .returned (.int .i64 (cond (d.is != 3) 292)) ∧ Grew w w' := by
  simp only [DeskV.cells] at hd
  have d1 : w.cell? ⟨b, 1, none⟩ = some (.int .u8 d.is) := cell_of hd 1
  clear hd
  generalize d.is = i at *
  go_enter Try.func39, Try.ntmps39
  go_wp2_with fail
  refine (unless_any _ _ _).mono ?_
  rintro e w' ⟨rfl, rfl⟩
  go_wp2_with fail
  go_ret
  exact ⟨rfl, Off.refl _ _⟩
theorem q_bound (hd : w.heap[b]? = some (.cells d.cells 84 (0, 0))) : Calls Try.prog 40 #[.pointer (some ⟨b, 0, none⟩)] w fun e w' => e = .returned (.int .i64 (cond (d.is != 0) 294)) ∧ Grew w w' := by
  simp only [DeskV.cells] at hd
  have d1 : w.cell? ⟨b, 1, none⟩ = some (.int .u8 d.is) := cell_of hd 1
  clear hd
  generalize d.is = i at *
  go_enter Try.func40, Try.ntmps40
  go_wp2_with fail
  refine (unless_any _ _ _).mono ?_
  rintro e w' ⟨rfl, rfl⟩
  go_wp2_with fail
  go_ret
  exact ⟨rfl, Off.refl _ _⟩
end

section
variable {w : World} {t fm sm pp pm : Nat} {ownv : Value} {most last : Int} {own : List Int} {F : List (Int × FileV)} {L : List (Int × (Nat × DeskV))} {P : List (Int × Bnd)}

/-- 'Accept': is it a number that may be? -/
theorem q_id (h : TabAt w t fm sm pp pm ownv most last own F L P) {id : Int} (hid : (Lit.int .u64 id).wf = true) (b : Option Addr) {B1 B2 : Nat} (h1 : w.cell? ⟨B1, 0, none⟩ = some (.int .u64 id)) (h2 : w.cell? ⟨B2, 0, none⟩ = some (.pointer (some ⟨t, 0, none⟩))) :
    Calls Try.prog 32 #[.pointer b, .pointer (some ⟨B1, 0, none⟩), .pointer (some ⟨B2, 0, none⟩)] w fun e w' => e = .returned (.int .i64 (cond (decide (0 < id) && (mget L id).isNone) 2)) ∧ Grew w w' := by
  have g3 := h.c3
  have hsk := fun n => (h.grew ((Off.refl (fun _ => False) _).drewN n)).socks.look (t := 76) (e := 82) Try.underlying76 (k := id) hid (zero82 _) false
  rw [vmap_get] at hsk
  by_cases hp : 0 < id
  · have hp1 : decide (0 < id) = true := by simpa using hp
    cases hx : mget L id with
    | none =>
      rw [hx] at hsk
      change ∀ n, (Instr.lookup 76 (.map (some sm)) (.int .u64 id) false).run Try.prog (w.drewN n) = .ok (.pointer none) (w.drewN n) at hsk
      clear h hx
      go_enter Try.func32, Try.ntmps32
      go_wp2_with fail
      go_quiet ((go_at_call 31; exact Calls.quiet_of_same (unless_any _ _ _)))
      go_wp2_with fail
      go_ret
      exact ⟨by first | rfl | (rw [hp1]; rfl), (Off.refl _ _).drewN _⟩
    | some x =>
      obtain ⟨xb, xd⟩ := x
      rw [hx] at hsk
      change ∀ n, (Instr.lookup 76 (.map (some sm)) (.int .u64 id) false).run Try.prog (w.drewN n) = .ok (.pointer (some ⟨xb, 0, none⟩)) (w.drewN n) at hsk
      clear h hx
      go_enter Try.func32, Try.ntmps32
      go_wp2_with fail
      go_quiet ((go_at_call 31; exact Calls.quiet_of_same (unless_any _ _ _)))
      go_wp2_with fail
      go_ret
      exact ⟨by first | rfl | (rw [hp1]; rfl), (Off.refl _ _).drewN _⟩
  · have hp1 : decide (0 < id) = false := by simpa using hp
    clear h hsk hp
    go_enter Try.func32, Try.ntmps32
    go_wp2_with fail
    go_quiet ((go_at_call 31; exact Calls.quiet_of_same (unless_any _ _ _)))
    go_wp2_with fail
    go_ret
    exact ⟨by first | rfl | (rw [hp1]; rfl), (Off.refl _ _).drewN _⟩

/-- 'Accept': is there room? -/
theorem q_room (h : TabAt w t fm sm pp pm ownv most last own F L P) (b : Option Addr) {B2 : Nat} (h2 : w.cell? ⟨B2, 0, none⟩ = some (.pointer (some ⟨t, 0, none⟩))) :
    Calls Try.prog 33 #[.pointer b, .pointer (some ⟨B2, 0, none⟩)] w fun e w' => e = .returned (.int .i64 (cond (decide ((F.length : Int) < most)) 291)) ∧ Grew w w' := by
  have g0 := h.c0
  have g2 := h.c2
  have hl : ∀ n, (Builtin.len_ #[75] 3 #[.map (some fm)]).run Try.prog (w.drewN n) = .ok (.int .i64 (F.length : Int)) (w.drewN n) := fun n => by
    have := (h.files.of_block (w' := w.drewN n) rfl).len (t := 75) (e := 42) Try.underlying75 3
    simpa [vmap] using this
  clear h
  go_enter Try.func33, Try.ntmps33
  go_wp2_with fail
  go_quiet ((go_at_call 31; exact Calls.quiet_of_same (unless_any _ _ _)))
  go_wp2_with fail
  go_ret
  exact ⟨rfl, (Off.refl _ _).drewN _⟩
end
end Go.Proofs.Ytnpfbdekomhonaa
