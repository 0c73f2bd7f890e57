/- the partitions, at whole numbers. -/
import Derived.Test.YtagdolkfefbohaaSrt1
import Derived.BigQuiet
namespace Go.Proofs.Ytagdolkfefbohaa
open Go.RowKit Stv
open Go.Sort (swp)

theorem up_go {p : Int → Bool} {d : Array Int} {i j : Nat} (h : i ≤ j) (hp : p d[i]! = true) : Sort.scanUp p d j (i + 1) = Sort.scanUp p d j i := by
  conv => rhs; rw [Sort.scanUp]
  rw [if_pos (by simp [h, hp])]
theorem up_stop {p : Int → Bool} {d : Array Int} {i j : Nat} (h : ¬ i ≤ j ∨ p d[i]! = false) : Sort.scanUp p d j i = i := by
  rw [Sort.scanUp]
  rcases h with h | h
  · rw [if_neg (by simp [h])]
  · rw [if_neg (by simp [h])]
theorem down_go {p : Int → Bool} {d : Array Int} {i j : Nat} (h0 : 0 < j) (h : i ≤ j) (hp : p d[j]! = true) : Sort.scanDown p d i (j - 1) = Sort.scanDown p d i j := by
  obtain ⟨k, rfl⟩ : ∃ k, j = k + 1 := ⟨j - 1, by omega⟩
  conv => rhs; rw [Sort.scanDown]
  rw [if_pos (by simp [h, hp])]
  rfl
theorem down_stop {p : Int → Bool} {d : Array Int} {i j : Nat} (h : ¬ i ≤ j ∨ p d[j]! = false) : Sort.scanDown p d i j = j := by
  cases j with
  | zero => rfl
  | succ k =>
    rw [Sort.scanDown]
    rcases h with h | h
    · rw [if_neg (by simp [h])]
    · rw [if_neg (by simp [h])]
theorem pe_stop {a i j i2 j2 : Nat} {d : Array Int} (h1 : Sort.scanUp (fun x => !ltI d[a]! x) d j i = i2) (h2 : Sort.scanDown (fun x => ltI d[a]! x) d i2 j = j2) (h : j2 < i2) : Sort.partEqLoop ltI a i j d = (i2, d) := by
  rw [Sort.partEqLoop_eq, h1, h2, if_pos h]
theorem pe_go {a i j i2 j2 : Nat} {d : Array Int} (h1 : Sort.scanUp (fun x => !ltI d[a]! x) d j i = i2) (h2 : Sort.scanDown (fun x => ltI d[a]! x) d i2 j = j2) (h : ¬ j2 < i2) : Sort.partEqLoop ltI a (i2 + 1) (j2 - 1) (swp d i2 j2) = Sort.partEqLoop ltI a i j d := by
  conv => rhs; rw [Sort.partEqLoop_eq, h1, h2, if_neg h]

set_option maxHeartbeats 3200000 in
theorem peq_any {w : World} {g : Nat} {d : Array Int} {R : List Value} (hR : RowB w g d R) {n cap : Nat} (hn : n = d.size) (hsz : d.size ≤ 1152921504606846976) {a b pivot : Nat} (hap : a ≤ pivot) (hpb : pivot < b) (hb : b ≤ d.size) :
    Calls Try.prog 39 #[.slice (some ⟨g, 0, none⟩) n cap, .int .i64 a, .int .i64 b, .int .i64 pivot] w fun e w' => e = .returned (.int .i64 (Sort.partitionEqual ltI d a b pivot).1) ∧ SB w g R (Sort.partitionEqual ltI d a b pivot).2 w' := by
  subst hn
  obtain ⟨N, hN⟩ : ∃ N, N = d.size := ⟨_, rfl⟩
  obtain ⟨x, hx, cx, fx⟩ := (SB.start hR).at_ (i := a) (by omega)
  obtain ⟨y, hy, cy, fy⟩ := (SB.start hR).at_ (i := pivot) (by omega)
  obtain ⟨v', cv'⟩ := cell?_setCell_some (w := w) (p := ⟨g, a, none⟩) (x := .int .u64 y) (q := ⟨g, pivot, none⟩) (v := .int .u64 y) cy
  have HR0 := Lib.hid (((SB.start hR).swapped (i := a) (j := pivot) (by omega) (by omega) hx hy).drew)
  rw [← hN] at hb hsz ⊢
  have HN := Lib.hid hN
  obtain ⟨d0, hd0⟩ : ∃ d0, d0 = swp d a pivot := ⟨_, rfl⟩
  have hE0 : Sort.partitionEqual ltI d a b pivot = Sort.partEqLoop ltI a (a + 1) (b - 1) d0 := by rw [hd0]; rfl
  have hs0 : d0.size = N := by rw [hd0, swp_size, hN]
  rw [← hd0] at HR0
  have HZ0 := Lib.hid hs0
  have HE0 := Lib.hid hE0
  clear hR hN hx hy hs0 hd0 hE0
  go_enter Try.func39, Try.ntmps39
  go_wp2
  go_region
  go_wp2
  go_loopw [9, 10] (fun vi vj wr => ∃ (i j : Nat) (dk : Array Int), vi = .int .i64 i ∧ vj = .int .i64 j ∧ a < i ∧ i ≤ j + 2 ∧ j < b ∧ dk.size = N ∧ SB w g R dk wr ∧ Sort.partEqLoop ltI a i j dk = Sort.partitionEqual ltI d a b pivot) (fun vi vj _ => (intOf vj).toNat + 2 - (intOf vi).toNat)
  case atStart => exact ⟨a + 1, b - 1, d0, rfl, by congr 1; omega, by omega, by omega, by omega, HZ0.out, HR0.out, HE0.out.symm⟩
  case round =>
    obtain ⟨i, j, dk, rfl, rfl, hai, hij, hjb, hs, hS, hE⟩ := hrel
    have HS := Lib.hid hS
    have HE := Lib.hid hE
    have HZ := Lib.hid hs
    clear hS hE hs
    go_wp2
    go_loopw [9] (fun vi wr2 => ∃ i2 : Nat, vi = .int .i64 i2 ∧ i ≤ i2 ∧ i2 ≤ j + 2 ∧ SB w g R dk wr2 ∧ Sort.scanUp (fun x => !ltI dk[a]! x) dk j i2 = Sort.scanUp (fun x => !ltI dk[a]! x) dk j i) (fun vi _ => j + 2 - (intOf vi).toNat)
    case atStart => exact ⟨i, rfl, Nat.le_refl _, hij, HS.out, rfl⟩
    case round =>
      obtain ⟨i2, rfl, hi2, hi2j, hS, hU⟩ := hrel
      have HU := Lib.hid hU
      clear hU
      obtain ⟨x, hx, cx, fx⟩ := hS.at_ (i := a) (by rw [HZ.out]; omega)
      have HS2 := Lib.hid hS
      clear hS
      by_cases hc : i2 ≤ j
      · have hcz : (i2 : Int) ≤ (j : Int) := by omega
        obtain ⟨y, hy, cy, fy⟩ := HS2.out.at_ (i := i2) (by rw [HZ.out]; omega)
        have HX := Lib.hid (And.intro hx hy)
        clear hx hy
        by_cases hl : ltI x y = true
        · go_wp2
          go_big_quiet ((go_at_call 38; exact Calls.quiet_of_same (less_yes hl _)))
          go_wp2_with fail
          have HT : Hid (¬ i2 ≤ j ∨ (fun x => !ltI dk[a]! x) dk[i2]! = false) := Lib.hid (.inr (by show (!ltI dk[a]! dk[i2]!) = false; rw [← HX.out.1, ← HX.out.2, hl]; rfl))
          clear cx fx cy fy HX hcz
          have e2 : Sort.scanUp (fun x => !ltI dk[a]! x) dk j i = i2 := by rw [← HU.out]; exact up_stop HT.out
          have HSa : Hid (SB w g R dk (wr.drewN nq)) := Lib.hid (HS2.out.drewN nq)
          clear HS2 HT
          generalize wr.drewN nq = wa at HSa ⊢
          have HE2 := Lib.hid e2
          clear e2
          go_wp2_with fail
          go_loopw [10] (fun vj wr3 => ∃ j2 : Nat, vj = .int .i64 j2 ∧ j2 ≤ j ∧ SB w g R dk wr3 ∧ Sort.scanDown (fun x => ltI dk[a]! x) dk i2 j2 = Sort.scanDown (fun x => ltI dk[a]! x) dk i2 j) (fun vj _ => (intOf vj).toNat)
          case atStart => exact ⟨j, rfl, Nat.le_refl _, HSa.out, rfl⟩
          case round =>
            obtain ⟨j2, rfl, hj2, hS, hD⟩ := hrel
            have HD := Lib.hid hD
            clear hD
            obtain ⟨x, hx, cx, fx⟩ := hS.at_ (i := a) (by rw [HZ.out]; omega)
            have HS3 := Lib.hid hS
            clear hS
            by_cases hc : i2 ≤ j2
            · have hcz : (i2 : Int) ≤ (j2 : Int) := by omega
              obtain ⟨y, hy, cy, fy⟩ := HS3.out.at_ (i := j2) (by rw [HZ.out]; omega)
              have HX := Lib.hid (And.intro hx hy)
              clear hx hy
              by_cases hl : ltI x y = true
              · go_wp2
                go_big_quiet ((go_at_call 38; exact Calls.quiet_of_same (less_yes hl _)))
                go_wp2
                go_roundw
                case rel => exact ⟨j2 - 1, by congr 1; omega, by omega, HS3.out.drewN _, by rw [← HD.out]; exact down_go (by omega) hc (by show ltI dk[a]! dk[j2]! = true; rw [← HX.out.1, ← HX.out.2]; exact hl)⟩
                case measure => simp [intOf]; omega
              · have hl : ltI x y = false := by simpa using hl
                go_wp2
                go_big_quiet ((go_at_call 38; exact Calls.quiet_of_same (less_no hl _)))
                go_wp2_with fail
                have HT : Hid (¬ i2 ≤ j2 ∨ (fun x => ltI dk[a]! x) dk[j2]! = false) := Lib.hid (.inr (by show ltI dk[a]! dk[j2]! = false; rw [← HX.out.1, ← HX.out.2]; exact hl))
                clear cx fx cy fy HX
                have e3 : Sort.scanDown (fun x => ltI dk[a]! x) dk i2 j = j2 := by rw [← HD.out]; exact down_stop HT.out
                have HSb : Hid (SB w g R dk (wr.drewN nq)) := Lib.hid (HS3.out.drewN nq)
                clear HS3 HT
                generalize wr.drewN nq = wb at HSb ⊢
                have HE3 := Lib.hid e3
                clear e3
                have hend : ¬ j2 < i2 := by omega
                have hendz : ¬ ((j2 : Int) < (i2 : Int)) := by omega
                obtain ⟨u, hu, cu, fu⟩ := HSb.out.at_ (i := i2) (by rw [HZ.out]; omega)
                obtain ⟨v, hv, cv, fv⟩ := HSb.out.at_ (i := j2) (by rw [HZ.out]; omega)
                obtain ⟨v', cv'⟩ := cell?_setCell_some (w := wb) (p := ⟨g, i2, none⟩) (x := .int .u64 v) (q := ⟨g, j2, none⟩) (v := .int .u64 v) cv
                have HX := Lib.hid (And.intro hu hv)
                clear hu hv
                go_wp2
                go_region
                go_wp2_with fail
                go_roundw
                case rel =>
                  refine ⟨i2 + 1, j2 - 1, swp dk i2 j2, rfl, by congr 1; omega, by omega, by omega, by omega, by rw [swp_size]; exact HZ.out, (HSb.out.swapped (i := i2) (j := j2) (by rw [HZ.out]; omega) (by rw [HZ.out]; omega) HX.out.1 HX.out.2).drew, ?_⟩
                  rw [← HE.out]
                  exact pe_go HE2.out HE3.out hend
                case measure => simp [intOf]; omega
            · have hcz : decide ((i2 : Int) ≤ (j2 : Int)) = false := decide_eq_false (by omega)
              clear hx
              go_wp2
              go_big_quiet (fail)
              go_wp2_with fail
              have HT : Hid (¬ i2 ≤ j2 ∨ (fun x => ltI dk[a]! x) dk[j2]! = false) := Lib.hid (.inl hc)
              clear cx fx hcz
              have e3 : Sort.scanDown (fun x => ltI dk[a]! x) dk i2 j = j2 := by rw [← HD.out]; exact down_stop HT.out
              have HSb : Hid (SB w g R dk (wr.drewN nq)) := Lib.hid (HS3.out.drewN nq)
              clear HS3 HT
              generalize wr.drewN nq = wb at HSb ⊢
              have HE3 := Lib.hid e3
              clear e3
              have hend : j2 < i2 := by omega
              have hendz : (j2 : Int) < (i2 : Int) := by omega
              go_wp2
              go_ret
              have e := pe_stop HE2.out HE3.out hend
              rw [← HE.out, e]
              exact ⟨rfl, HSb.out⟩
        · have hl : ltI x y = false := by simpa using hl
          go_wp2
          go_big_quiet ((go_at_call 38; exact Calls.quiet_of_same (less_no hl _)))
          go_wp2
          go_roundw
          case rel => exact ⟨i2 + 1, rfl, by omega, by omega, HS2.out.drewN _, by rw [← HU.out]; exact up_go hc (by show (!ltI dk[a]! dk[i2]!) = true; rw [← HX.out.1, ← HX.out.2, hl]; rfl)⟩
          case measure => simp [intOf]; omega
      · have hcz : decide ((i2 : Int) ≤ (j : Int)) = false := decide_eq_false (by omega)
        clear hx
        go_wp2
        go_big_quiet (fail)
        go_wp2_with fail
        have HT : Hid (¬ i2 ≤ j ∨ (fun x => !ltI dk[a]! x) dk[i2]! = false) := Lib.hid (.inl hc)
        clear cx fx hcz
        have e2 : Sort.scanUp (fun x => !ltI dk[a]! x) dk j i = i2 := by rw [← HU.out]; exact up_stop HT.out
        have HSa : Hid (SB w g R dk (wr.drewN nq)) := Lib.hid (HS2.out.drewN nq)
        clear HS2 HT
        generalize wr.drewN nq = wa at HSa ⊢
        have HE2 := Lib.hid e2
        clear e2
        go_wp2_with fail
        go_loopw [10] (fun vj wr3 => ∃ j2 : Nat, vj = .int .i64 j2 ∧ j2 ≤ j ∧ SB w g R dk wr3 ∧ Sort.scanDown (fun x => ltI dk[a]! x) dk i2 j2 = Sort.scanDown (fun x => ltI dk[a]! x) dk i2 j) (fun vj _ => (intOf vj).toNat)
        case atStart => exact ⟨j, rfl, Nat.le_refl _, HSa.out, rfl⟩
        case round =>
          obtain ⟨j2, rfl, hj2, hS, hD⟩ := hrel
          have HD := Lib.hid hD
          clear hD
          have HS3 := Lib.hid hS
          clear hS
          have hc2 : ¬ i2 ≤ j2 := by omega
          clear hc
          have hcz : decide ((i2 : Int) ≤ (j2 : Int)) = false := decide_eq_false (by omega)
          go_wp2
          go_big_quiet (fail)
          go_wp2_with fail
          have HT : Hid (¬ i2 ≤ j2 ∨ (fun x => ltI dk[a]! x) dk[j2]! = false) := Lib.hid (.inl (by omega))
          clear hcz
          have e3 : Sort.scanDown (fun x => ltI dk[a]! x) dk i2 j = j2 := by rw [← HD.out]; exact down_stop HT.out
          have HSb : Hid (SB w g R dk (wr.drewN nq)) := Lib.hid (HS3.out.drewN nq)
          clear HS3 HT
          generalize wr.drewN nq = wb at HSb ⊢
          have HE3 := Lib.hid e3
          clear e3
          have hend : j2 < i2 := by omega
          have hendz : (j2 : Int) < (i2 : Int) := by omega
          go_wp2
          go_ret
          have e := pe_stop HE2.out HE3.out hend
          rw [← HE.out, e]
          exact ⟨rfl, HSb.out⟩
end Go.Proofs.Ytagdolkfefbohaa
