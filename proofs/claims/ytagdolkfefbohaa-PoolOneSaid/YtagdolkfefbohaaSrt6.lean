/- partition, at whole numbers. -/
import Derived.Test.YtagdolkfefbohaaSrt5
import Derived.BigQuiet
namespace Go.Proofs.Ytagdolkfefbohaa
open Go.RowKit Stv
open Go.Sort (swp)

theorem pt_stop {a i j i2 j2 : Nat} {d : Array Int} (h1 : Sort.scanUp (fun x => ltI x d[a]!) d j i = i2) (h2 : Sort.scanDown (fun x => !ltI x d[a]!) d i2 j = j2) (h : j2 < i2) : Sort.partLoop ltI a i j d = (j2, d) := by
  rw [Sort.partLoop_eq, h1, h2, if_pos h]
theorem pt_go {a i j i2 j2 : Nat} {d : Array Int} (h1 : Sort.scanUp (fun x => ltI x d[a]!) d j i = i2) (h2 : Sort.scanDown (fun x => !ltI x d[a]!) d i2 j = j2) (h : ¬ j2 < i2) : Sort.partLoop ltI a (i2 + 1) (j2 - 1) (swp d i2 j2) = Sort.partLoop ltI a i j d := by
  conv => rhs; rw [Sort.partLoop_eq, h1, h2, if_neg h]
theorem part_stop {a b pivot i j i2 j2 : Nat} {d d0 : Array Int} (h0 : d0 = swp d a pivot) (hi : i = a + 1 ∧ j = b - 1) (h1 : Sort.scanUp (fun x => ltI x d0[a]!) d0 j i = i2) (h2 : Sort.scanDown (fun x => !ltI x d0[a]!) d0 i2 j = j2) (h : j2 < i2) :
    Sort.partition ltI d a b pivot = (j2, true, swp d0 j2 a) := by
  obtain ⟨rfl, rfl⟩ := hi
  unfold Sort.partition
  subst h0
  simp only [h1, h2, if_pos h]
theorem part_go {a b pivot i j i2 j2 : Nat} {d d0 : Array Int} (h0 : d0 = swp d a pivot) (hi : i = a + 1 ∧ j = b - 1) (h1 : Sort.scanUp (fun x => ltI x d0[a]!) d0 j i = i2) (h2 : Sort.scanDown (fun x => !ltI x d0[a]!) d0 i2 j = j2) (h : ¬ j2 < i2) :
    Sort.partition ltI d a b pivot = ((Sort.partLoop ltI a (i2 + 1) (j2 - 1) (swp d0 i2 j2)).1, false, swp (Sort.partLoop ltI a (i2 + 1) (j2 - 1) (swp d0 i2 j2)).2 (Sort.partLoop ltI a (i2 + 1) (j2 - 1) (swp d0 i2 j2)).1 a) := by
  obtain ⟨rfl, rfl⟩ := hi
  unfold Sort.partition
  subst h0
  simp only [h1, h2, if_neg h]


set_option maxHeartbeats 6400000 in
set_option maxRecDepth 100000 in
theorem part_any {w : World} {g : Nat} {d : Array Int} {R : List Value} (hR : RowB w g d R) {n cap : Nat} (hn : n = d.size) (hsz : d.size ≤ 1152921504606846976) {a b pivot : Nat} (hap : a ≤ pivot) (hpb : pivot < b) (hb : b ≤ d.size) :
    Calls Try.prog 40 #[.slice (some ⟨g, 0, none⟩) n cap, .int .i64 a, .int .i64 b, .int .i64 pivot] w fun e w' => e = .returned (.tuple #[.int .i64 (Sort.partition ltI d a b pivot).1, .bool (Sort.partition ltI d a b pivot).2.1]) ∧ SB w g R (Sort.partition ltI d a b pivot).2.2 w' := by
  subst hn
  obtain ⟨N, hN⟩ : ∃ N, N = d.size := ⟨_, rfl⟩
  obtain ⟨x, hx, cx, fx⟩ := (SB.start hR).at_ (i := a) (by omega)
  obtain ⟨y, hy, cy, fy⟩ := (SB.start hR).at_ (i := pivot) (by omega)
  obtain ⟨v', cv'⟩ := cell?_setCell_some (w := w) (p := ⟨g, a, none⟩) (x := .int .u64 y) (q := ⟨g, pivot, none⟩) (v := .int .u64 y) cy
  obtain ⟨d0, hd0⟩ : ∃ d0, d0 = swp d a pivot := ⟨_, rfl⟩
  have HS : Hid (SB w g R d0 ((w.setCell ⟨g, a, none⟩ (.int .u64 y)).setCell ⟨g, pivot, none⟩ (.int .u64 x)).drew) := by
    rw [hd0]; exact Lib.hid (((SB.start hR).swapped (i := a) (j := pivot) (by omega) (by omega) hx hy).drew)
  have HZ : Hid (d0.size = N) := Lib.hid (by rw [hd0, swp_size, hN])
  rw [← hN] at hb hsz ⊢
  have HN := Lib.hid hN
  have HD0 := Lib.hid hd0
  clear hR hN hx hy hd0
  go_enter Try.func40, Try.ntmps40
  go_wp2
  go_region
  generalize ((w.setCell ⟨g, a, none⟩ (.int .u64 y)).setCell ⟨g, pivot, none⟩ (.int .u64 x)).drew = w0 at HS ⊢
  clear cx fx cy fy cv'
  obtain ⟨i, hi⟩ : ∃ i, i = a + 1 := ⟨_, rfl⟩
  obtain ⟨j, hj⟩ : ∃ j, j = b - 1 := ⟨_, rfl⟩
  have hai : a < i := by omega
  have hjb : j < b := by omega
  go_wp2
  rw [show ((a : Int) + 1) = i by omega, show ((b : Int) - 1) = j by omega]
  have hij : i ≤ j + 2 := by omega
  have HI := Lib.hid (And.intro hi hj)
  have hjN : j < N := by omega
  clear hi hj
  go_loopw [10] (fun vi wr2 => ∃ i2 : Nat, vi = .int .i64 i2 ∧ i ≤ i2 ∧ i2 ≤ j + 2 ∧ SB w g R d0 wr2 ∧ Sort.scanUp (fun x => ltI x d0[a]!) d0 j i2 = Sort.scanUp (fun x => ltI x d0[a]!) d0 j i) (fun vi _ => j + 2 - (intOf vi).toNat)
  case atStart => exact ⟨i, by congr 1 <;> omega, Nat.le_refl _, by omega, HS.out, rfl⟩
  case round =>
    obtain ⟨i2, rfl, hi2, hi2j, hS, hU⟩ := hrel
    have HU := Lib.hid hU
    clear hU
    obtain ⟨x, hx, cx, fx⟩ := hS.at_ (i := a) (by rw [HZ.out]; omega)
    have HS2 := Lib.hid hS
    clear hS
    by_cases hc : i2 ≤ j
    · have hcz : (i2 : Int) ≤ (j : Int) := by omega
      obtain ⟨y, hy, cy, fy⟩ := HS2.out.at_ (i := i2) (by rw [HZ.out]; omega)
      have HX := Lib.hid (And.intro hx hy)
      clear hx hy
      by_cases hl : ltI y x = true
      · go_wp2
        go_big_quiet ((go_at_call 38; exact Calls.quiet_of_same (less_yes hl _)))
        go_wp2
        go_roundw
        case rel => exact ⟨i2 + 1, rfl, by omega, by omega, HS2.out.drewN _, by rw [← HU.out]; exact up_go hc (by show ltI d0[i2]! d0[a]! = true; rw [← HX.out.1, ← HX.out.2]; exact hl)⟩
        case measure => simp [intOf]; omega
      · have hl : ltI y x = false := by simpa using hl
        go_wp2
        go_big_quiet ((go_at_call 38; exact Calls.quiet_of_same (less_no hl _)))
        go_wp2_with fail
        have HT : Hid (¬ i2 ≤ j ∨ (fun x => ltI x d0[a]!) d0[i2]! = false) := Lib.hid (.inr (by show ltI d0[i2]! d0[a]! = false; rw [← HX.out.1, ← HX.out.2]; exact hl))
        clear cx fx cy fy HX hcz
        have e2 : Sort.scanUp (fun x => ltI x d0[a]!) d0 j i = i2 := by rw [← HU.out]; exact up_stop HT.out
        have HSa : Hid (SB w g R d0 (wr.drewN nq)) := Lib.hid (HS2.out.drewN nq)
        clear HS2 HT
        generalize wr.drewN nq = wa at HSa ⊢
        have HE2 := Lib.hid e2
        clear e2
        go_wp2_with fail
        go_loopw [11] (fun vj wr3 => ∃ j2 : Nat, vj = .int .i64 j2 ∧ j2 ≤ j ∧ SB w g R d0 wr3 ∧ Sort.scanDown (fun x => !ltI x d0[a]!) d0 i2 j2 = Sort.scanDown (fun x => !ltI x d0[a]!) d0 i2 j) (fun vj _ => (intOf vj).toNat)
        case atStart => exact ⟨j, by congr 1 <;> omega, Nat.le_refl _, HSa.out, rfl⟩
        case round =>
          obtain ⟨j2, rfl, hj2, hS, hD⟩ := hrel
          have HD := Lib.hid hD
          clear hD
          obtain ⟨x, hx, cx, fx⟩ := hS.at_ (i := a) (by rw [HZ.out]; omega)
          have HS3 := Lib.hid hS
          clear hS
          by_cases hc : i2 ≤ j2
          · have hcz : (i2 : Int) ≤ (j2 : Int) := by omega
            obtain ⟨y, hy, cy, fy⟩ := HS3.out.at_ (i := j2) (by rw [HZ.out]; omega)
            have HX := Lib.hid (And.intro hx hy)
            clear hx hy
            by_cases hl : ltI y x = true
            · go_wp2
              go_big_quiet ((go_at_call 38; exact Calls.quiet_of_same (less_yes hl _)))
              go_wp2_with fail
              have HT : Hid (¬ i2 ≤ j2 ∨ (fun x => !ltI x d0[a]!) d0[j2]! = false) := Lib.hid (.inr (by show (!ltI d0[j2]! d0[a]!) = false; rw [← HX.out.1, ← HX.out.2, hl]; rfl))
              clear cx fx cy fy HX
              have e3 : Sort.scanDown (fun x => !ltI x d0[a]!) d0 i2 j = j2 := by rw [← HD.out]; exact down_stop HT.out
              have HSb : Hid (SB w g R d0 (wr.drewN nq)) := Lib.hid (HS3.out.drewN nq)
              clear HS3 HT
              generalize wr.drewN nq = wb at HSb ⊢
              have HE3 := Lib.hid e3
              clear e3
              have hend : ¬ j2 < i2 := by omega
              have hendz : ¬ ((j2 : Int) < (i2 : Int)) := by omega
              obtain ⟨u, hu, cu, fu⟩ := HSb.out.at_ (i := i2) (by rw [HZ.out]; omega)
              obtain ⟨v, hv, cv, fv⟩ := HSb.out.at_ (i := j2) (by rw [HZ.out]; omega)
              obtain ⟨v', cv'⟩ := cell?_setCell_some (w := wb) (p := ⟨g, i2, none⟩) (x := .int .u64 v) (q := ⟨g, j2, none⟩) (v := .int .u64 v) cv
              have HX := Lib.hid (And.intro hu hv)
              clear hu hv
              go_wp2
              go_region
              have HSc : Hid (SB w g R (swp d0 i2 j2) ((wb.setCell ⟨g, i2, none⟩ (.int .u64 v)).setCell ⟨g, j2, none⟩ (.int .u64 u)).drew) := Lib.hid (HSb.out.swapped (i := i2) (j := j2) (by rw [HZ.out]; omega) (by rw [HZ.out]; omega) HX.out.1 HX.out.2).drew
              generalize ((wb.setCell ⟨g, i2, none⟩ (.int .u64 v)).setCell ⟨g, j2, none⟩ (.int .u64 u)).drew = wc at HSc ⊢
              clear cu fu cv fv cv' HX
              have hp0 := part_go HD0.out HI.out HE2.out HE3.out hend
              obtain ⟨P, hP⟩ : ∃ P, P = Sort.partLoop ltI a (i2 + 1) (j2 - 1) (swp d0 i2 j2) := ⟨_, rfl⟩
              rw [← hP] at hp0
              have HP0 := Lib.hid hp0
              have HPP := Lib.hid hP
              have HZc : Hid ((swp d0 i2 j2).size = N) := Lib.hid (by rw [swp_size]; exact HZ.out)
              clear hp0 hP HZ HE2 HE3 HU HD HSb HSa
              go_wp2_with fail
              go_loopw [10, 11] (fun vi vj wr => ∃ (i j : Nat) (dk : Array Int), vi = .int .i64 i ∧ vj = .int .i64 j ∧ a < i ∧ i ≤ j + 2 ∧ j < b ∧ dk.size = N ∧ SB w g R dk wr ∧ Sort.partLoop ltI a i j dk = P) (fun vi vj _ => (intOf vj).toNat + 2 - (intOf vi).toNat)
              case atStart => exact ⟨i2 + 1, j2 - 1, _, rfl, by congr 1; omega, by omega, by omega, by omega, HZc.out, HSc.out, HPP.out.symm⟩
              case round =>
                clear HZc HSc hend hendz hc hcz hl
                obtain ⟨i3, j3, dk, rfl, rfl, hai3, hij3, hjb3, hs, hS, hE⟩ := hrel
                have HS := Lib.hid hS
                have HE := Lib.hid hE
                have HZ := Lib.hid hs
                clear hS hE hs
                go_wp2
                go_loopw [10] (fun vi wr2 => ∃ i4 : Nat, vi = .int .i64 i4 ∧ i3 ≤ i4 ∧ i4 ≤ j3 + 2 ∧ SB w g R dk wr2 ∧ Sort.scanUp (fun x => ltI x dk[a]!) dk j3 i4 = Sort.scanUp (fun x => ltI x dk[a]!) dk j3 i3) (fun vi _ => j3 + 2 - (intOf vi).toNat)
                case atStart => exact ⟨i3, by congr 1 <;> omega, Nat.le_refl _, by omega, HS.out, rfl⟩
                case round =>
                  obtain ⟨i4, rfl, hi2, hi2j, hS, hU⟩ := hrel
                  have HU := Lib.hid hU
                  clear hU
                  obtain ⟨x, hx, cx, fx⟩ := hS.at_ (i := a) (by rw [HZ.out]; omega)
                  have HS2 := Lib.hid hS
                  clear hS
                  by_cases hc : i4 ≤ j3
                  · have hcz : (i4 : Int) ≤ (j3 : Int) := by omega
                    obtain ⟨y, hy, cy, fy⟩ := HS2.out.at_ (i := i4) (by rw [HZ.out]; omega)
                    have HX := Lib.hid (And.intro hx hy)
                    clear hx hy
                    by_cases hl : ltI y x = true
                    · go_wp2
                      go_big_quiet ((go_at_call 38; exact Calls.quiet_of_same (less_yes hl _)))
                      go_wp2
                      go_roundw
                      case rel => exact ⟨i4 + 1, rfl, by omega, by omega, HS2.out.drewN _, by rw [← HU.out]; exact up_go hc (by show ltI dk[i4]! dk[a]! = true; rw [← HX.out.1, ← HX.out.2]; exact hl)⟩
                      case measure => simp [intOf]; omega
                    · have hl : ltI y x = false := by simpa using hl
                      go_wp2
                      go_big_quiet ((go_at_call 38; exact Calls.quiet_of_same (less_no hl _)))
                      go_wp2_with fail
                      have HT : Hid (¬ i4 ≤ j3 ∨ (fun x => ltI x dk[a]!) dk[i4]! = false) := Lib.hid (.inr (by show ltI dk[i4]! dk[a]! = false; rw [← HX.out.1, ← HX.out.2]; exact hl))
                      clear cx fx cy fy HX hcz
                      have e2 : Sort.scanUp (fun x => ltI x dk[a]!) dk j3 i3 = i4 := by rw [← HU.out]; exact up_stop HT.out
                      have HSa : Hid (SB w g R dk (wr.drewN nq)) := Lib.hid (HS2.out.drewN nq)
                      clear HS2 HT
                      generalize wr.drewN nq = wa at HSa ⊢
                      have HE2 := Lib.hid e2
                      clear e2
                      go_wp2_with fail
                      go_loopw [11] (fun vj wr3 => ∃ j4 : Nat, vj = .int .i64 j4 ∧ j4 ≤ j3 ∧ SB w g R dk wr3 ∧ Sort.scanDown (fun x => !ltI x dk[a]!) dk i4 j4 = Sort.scanDown (fun x => !ltI x dk[a]!) dk i4 j3) (fun vj _ => (intOf vj).toNat)
                      case atStart => exact ⟨j3, by congr 1 <;> omega, Nat.le_refl _, HSa.out, rfl⟩
                      case round =>
                        obtain ⟨j4, rfl, hj2, hS, hD⟩ := hrel
                        have HD := Lib.hid hD
                        clear hD
                        obtain ⟨x, hx, cx, fx⟩ := hS.at_ (i := a) (by rw [HZ.out]; omega)
                        have HS3 := Lib.hid hS
                        clear hS
                        by_cases hc : i4 ≤ j4
                        · have hcz : (i4 : Int) ≤ (j4 : Int) := by omega
                          obtain ⟨y, hy, cy, fy⟩ := HS3.out.at_ (i := j4) (by rw [HZ.out]; omega)
                          have HX := Lib.hid (And.intro hx hy)
                          clear hx hy
                          by_cases hl : ltI y x = true
                          · go_wp2
                            go_big_quiet ((go_at_call 38; exact Calls.quiet_of_same (less_yes hl _)))
                            go_wp2_with fail
                            have HT : Hid (¬ i4 ≤ j4 ∨ (fun x => !ltI x dk[a]!) dk[j4]! = false) := Lib.hid (.inr (by show (!ltI dk[j4]! dk[a]!) = false; rw [← HX.out.1, ← HX.out.2, hl]; rfl))
                            clear cx fx cy fy HX
                            have e3 : Sort.scanDown (fun x => !ltI x dk[a]!) dk i4 j3 = j4 := by rw [← HD.out]; exact down_stop HT.out
                            have HSb : Hid (SB w g R dk (wr.drewN nq)) := Lib.hid (HS3.out.drewN nq)
                            clear HS3 HT
                            generalize wr.drewN nq = wb at HSb ⊢
                            have HE3 := Lib.hid e3
                            clear e3
                            have hend : ¬ j4 < i4 := by omega
                            have hendz : ¬ ((j4 : Int) < (i4 : Int)) := by omega
                            obtain ⟨u, hu, cu, fu⟩ := HSb.out.at_ (i := i4) (by rw [HZ.out]; omega)
                            obtain ⟨v, hv, cv, fv⟩ := HSb.out.at_ (i := j4) (by rw [HZ.out]; omega)
                            obtain ⟨v', cv'⟩ := cell?_setCell_some (w := wb) (p := ⟨g, i4, none⟩) (x := .int .u64 v) (q := ⟨g, j4, none⟩) (v := .int .u64 v) cv
                            have HX := Lib.hid (And.intro hu hv)
                            clear hu hv
                            go_wp2
                            go_region
                            have HSc : Hid (SB w g R (swp dk i4 j4) ((wb.setCell ⟨g, i4, none⟩ (.int .u64 v)).setCell ⟨g, j4, none⟩ (.int .u64 u)).drew) := Lib.hid (HSb.out.swapped (i := i4) (j := j4) (by rw [HZ.out]; omega) (by rw [HZ.out]; omega) HX.out.1 HX.out.2).drew
                            generalize ((wb.setCell ⟨g, i4, none⟩ (.int .u64 v)).setCell ⟨g, j4, none⟩ (.int .u64 u)).drew = wc at HSc ⊢
                            clear cu fu cv fv cv' HX
                            go_wp2
                            go_roundw
                            case rel => exact ⟨i4 + 1, j4 - 1, swp dk i4 j4, rfl, by congr 1; omega, by omega, by omega, by omega, by rw [swp_size]; exact HZ.out, HSc.out, (pt_go HE2.out HE3.out hend).trans HE.out⟩
                            case measure => simp [intOf]; omega
                          · have hl : ltI y x = false := by simpa using hl
                            go_wp2
                            go_big_quiet ((go_at_call 38; exact Calls.quiet_of_same (less_no hl _)))
                            go_wp2
                            go_roundw
                            case rel => exact ⟨j4 - 1, by congr 1; omega, by omega, HS3.out.drewN _, by rw [← HD.out]; exact down_go (by omega) hc (by show (!ltI dk[j4]! dk[a]!) = true; rw [← HX.out.1, ← HX.out.2, hl]; rfl)⟩
                            case measure => simp [intOf]; omega
                        · have hcz : decide ((i4 : Int) ≤ (j4 : Int)) = false := decide_eq_false (by omega)
                          clear hx
                          go_wp2
                          go_big_quiet (fail)
                          go_wp2_with fail
                          have HT : Hid (¬ i4 ≤ j4 ∨ (fun x => !ltI x dk[a]!) dk[j4]! = false) := Lib.hid (.inl hc)
                          clear cx fx hcz
                          have e3 : Sort.scanDown (fun x => !ltI x dk[a]!) dk i4 j3 = j4 := by rw [← HD.out]; exact down_stop HT.out
                          have HSb : Hid (SB w g R dk (wr.drewN nq)) := Lib.hid (HS3.out.drewN nq)
                          clear HS3 HT
                          generalize wr.drewN nq = wb at HSb ⊢
                          have HE3 := Lib.hid e3
                          clear e3
                          have hend : j4 < i4 := by omega
                          have hendz : (j4 : Int) < (i4 : Int) := by omega
                          obtain ⟨u, hu, cu, fu⟩ := HSb.out.at_ (i := j4) (by rw [HZ.out]; omega)
                          obtain ⟨v, hv, cv, fv⟩ := HSb.out.at_ (i := a) (by rw [HZ.out]; omega)
                          obtain ⟨v', cv'⟩ := cell?_setCell_some (w := wb) (p := ⟨g, j4, none⟩) (x := .int .u64 v) (q := ⟨g, a, none⟩) (v := .int .u64 v) cv
                          have HX := Lib.hid (And.intro hu hv)
                          clear hu hv
                          go_wp2_with fail
                          go_region
                          have HSc : Hid (SB w g R (swp dk j4 a) ((wb.setCell ⟨g, j4, none⟩ (.int .u64 v)).setCell ⟨g, a, none⟩ (.int .u64 u)).drew) := Lib.hid (HSb.out.swapped (i := j4) (j := a) (by rw [HZ.out]; omega) (by rw [HZ.out]; omega) HX.out.1 HX.out.2).drew
                          generalize ((wb.setCell ⟨g, j4, none⟩ (.int .u64 v)).setCell ⟨g, a, none⟩ (.int .u64 u)).drew = wc at HSc ⊢
                          clear cu fu cv fv cv' HX
                          go_wp2
                          go_ret2
                          have e := HE.out.symm.trans (pt_stop HE2.out HE3.out hend)
                          rw [HP0.out, e]
                          exact ⟨rfl, HSc.out⟩
                  · have hcz : decide ((i4 : Int) ≤ (j3 : Int)) = false := decide_eq_false (by omega)
                    clear hx
                    go_wp2
                    go_big_quiet (fail)
                    go_wp2_with fail
                    have HT : Hid (¬ i4 ≤ j3 ∨ (fun x => ltI x dk[a]!) dk[i4]! = false) := Lib.hid (.inl hc)
                    clear cx fx hcz
                    have e2 : Sort.scanUp (fun x => ltI x dk[a]!) dk j3 i3 = i4 := by rw [← HU.out]; exact up_stop HT.out
                    have HSa : Hid (SB w g R dk (wr.drewN nq)) := Lib.hid (HS2.out.drewN nq)
                    clear HS2 HT
                    generalize wr.drewN nq = wa at HSa ⊢
                    have HE2 := Lib.hid e2
                    clear e2
                    go_wp2_with fail
                    go_loopw [11] (fun vj wr3 => ∃ j4 : Nat, vj = .int .i64 j4 ∧ j4 ≤ j3 ∧ SB w g R dk wr3 ∧ Sort.scanDown (fun x => !ltI x dk[a]!) dk i4 j4 = Sort.scanDown (fun x => !ltI x dk[a]!) dk i4 j3) (fun vj _ => (intOf vj).toNat)
                    case atStart => exact ⟨j3, by congr 1 <;> omega, Nat.le_refl _, HSa.out, rfl⟩
                    case round =>
                      obtain ⟨j4, rfl, hj2, hS, hD⟩ := hrel
                      have HD := Lib.hid hD
                      clear hD
                      have HS3 := Lib.hid hS
                      clear hS
                      have hc2 : ¬ i4 ≤ j4 := by omega
                      clear hc
                      have hcz : decide ((i4 : Int) ≤ (j4 : Int)) = false := decide_eq_false (by omega)
                      go_wp2
                      go_big_quiet (fail)
                      go_wp2_with fail
                      have HT : Hid (¬ i4 ≤ j4 ∨ (fun x => !ltI x dk[a]!) dk[j4]! = false) := Lib.hid (.inl (by omega))
                      clear hcz
                      have e3 : Sort.scanDown (fun x => !ltI x dk[a]!) dk i4 j3 = j4 := by rw [← HD.out]; exact down_stop HT.out
                      have HSb : Hid (SB w g R dk (wr.drewN nq)) := Lib.hid (HS3.out.drewN nq)
                      clear HS3 HT
                      generalize wr.drewN nq = wb at HSb ⊢
                      have HE3 := Lib.hid e3
                      clear e3
                      have hend : j4 < i4 := by omega
                      have hendz : (j4 : Int) < (i4 : Int) := by omega
                      obtain ⟨u, hu, cu, fu⟩ := HSb.out.at_ (i := j4) (by rw [HZ.out]; omega)
                      obtain ⟨v, hv, cv, fv⟩ := HSb.out.at_ (i := a) (by rw [HZ.out]; omega)
                      obtain ⟨v', cv'⟩ := cell?_setCell_some (w := wb) (p := ⟨g, j4, none⟩) (x := .int .u64 v) (q := ⟨g, a, none⟩) (v := .int .u64 v) cv
                      have HX := Lib.hid (And.intro hu hv)
                      clear hu hv
                      go_wp2_with fail
                      go_region
                      have HSc : Hid (SB w g R (swp dk j4 a) ((wb.setCell ⟨g, j4, none⟩ (.int .u64 v)).setCell ⟨g, a, none⟩ (.int .u64 u)).drew) := Lib.hid (HSb.out.swapped (i := j4) (j := a) (by rw [HZ.out]; omega) (by rw [HZ.out]; omega) HX.out.1 HX.out.2).drew
                      generalize ((wb.setCell ⟨g, j4, none⟩ (.int .u64 v)).setCell ⟨g, a, none⟩ (.int .u64 u)).drew = wc at HSc ⊢
                      clear cu fu cv fv cv' HX
                      go_wp2
                      go_ret2
                      have e := HE.out.symm.trans (pt_stop HE2.out HE3.out hend)
                      rw [HP0.out, e]
                      exact ⟨rfl, HSc.out⟩
            · have hl : ltI y x = false := by simpa using hl
              go_wp2
              go_big_quiet ((go_at_call 38; exact Calls.quiet_of_same (less_no hl _)))
              go_wp2
              go_roundw
              case rel => exact ⟨j2 - 1, by congr 1; omega, by omega, HS3.out.drewN _, by rw [← HD.out]; exact down_go (by omega) hc (by show (!ltI d0[j2]! d0[a]!) = true; rw [← HX.out.1, ← HX.out.2, hl]; rfl)⟩
              case measure => simp [intOf]; omega
          · have hcz : decide ((i2 : Int) ≤ (j2 : Int)) = false := decide_eq_false (by omega)
            clear hx
            go_wp2
            go_big_quiet (fail)
            go_wp2_with fail
            have HT : Hid (¬ i2 ≤ j2 ∨ (fun x => !ltI x d0[a]!) d0[j2]! = false) := Lib.hid (.inl hc)
            clear cx fx hcz
            have e3 : Sort.scanDown (fun x => !ltI x d0[a]!) d0 i2 j = j2 := by rw [← HD.out]; exact down_stop HT.out
            have HSb : Hid (SB w g R d0 (wr.drewN nq)) := Lib.hid (HS3.out.drewN nq)
            clear HS3 HT
            generalize wr.drewN nq = wb at HSb ⊢
            have HE3 := Lib.hid e3
            clear e3
            have hend : j2 < i2 := by omega
            have hendz : (j2 : Int) < (i2 : Int) := by omega
            obtain ⟨u, hu, cu, fu⟩ := HSb.out.at_ (i := j2) (by rw [HZ.out]; omega)
            obtain ⟨v, hv, cv, fv⟩ := HSb.out.at_ (i := a) (by rw [HZ.out]; omega)
            obtain ⟨v', cv'⟩ := cell?_setCell_some (w := wb) (p := ⟨g, j2, none⟩) (x := .int .u64 v) (q := ⟨g, a, none⟩) (v := .int .u64 v) cv
            have HX := Lib.hid (And.intro hu hv)
            clear hu hv
            go_wp2_with fail
            go_region
            have HSc : Hid (SB w g R (swp d0 j2 a) ((wb.setCell ⟨g, j2, none⟩ (.int .u64 v)).setCell ⟨g, a, none⟩ (.int .u64 u)).drew) := Lib.hid (HSb.out.swapped (i := j2) (j := a) (by rw [HZ.out]; omega) (by rw [HZ.out]; omega) HX.out.1 HX.out.2).drew
            generalize ((wb.setCell ⟨g, j2, none⟩ (.int .u64 v)).setCell ⟨g, a, none⟩ (.int .u64 u)).drew = wc at HSc ⊢
            clear cu fu cv fv cv' HX
            go_wp2
            go_ret2
            have e := part_stop HD0.out HI.out HE2.out HE3.out hend
            rw [e]
            exact ⟨rfl, HSc.out⟩
    · have hcz : decide ((i2 : Int) ≤ (j : Int)) = false := decide_eq_false (by omega)
      clear hx
      go_wp2
      go_big_quiet (fail)
      go_wp2_with fail
      have HT : Hid (¬ i2 ≤ j ∨ (fun x => ltI x d0[a]!) d0[i2]! = false) := Lib.hid (.inl hc)
      clear cx fx hcz
      have e2 : Sort.scanUp (fun x => ltI x d0[a]!) d0 j i = i2 := by rw [← HU.out]; exact up_stop HT.out
      have HSa : Hid (SB w g R d0 (wr.drewN nq)) := Lib.hid (HS2.out.drewN nq)
      clear HS2 HT
      generalize wr.drewN nq = wa at HSa ⊢
      have HE2 := Lib.hid e2
      clear e2
      go_wp2_with fail
      go_loopw [11] (fun vj wr3 => ∃ j2 : Nat, vj = .int .i64 j2 ∧ j2 ≤ j ∧ SB w g R d0 wr3 ∧ Sort.scanDown (fun x => !ltI x d0[a]!) d0 i2 j2 = Sort.scanDown (fun x => !ltI x d0[a]!) d0 i2 j) (fun vj _ => (intOf vj).toNat)
      case atStart => exact ⟨j, by congr 1 <;> omega, Nat.le_refl _, HSa.out, rfl⟩
      case round =>
        obtain ⟨j2, rfl, hj2, hS, hD⟩ := hrel
        have HD := Lib.hid hD
        clear hD
        have HS3 := Lib.hid hS
        clear hS
        have hc2 : ¬ i2 ≤ j2 := by omega
        clear hc
        have hcz : decide ((i2 : Int) ≤ (j2 : Int)) = false := decide_eq_false (by omega)
        go_wp2
        go_big_quiet (fail)
        go_wp2_with fail
        have HT : Hid (¬ i2 ≤ j2 ∨ (fun x => !ltI x d0[a]!) d0[j2]! = false) := Lib.hid (.inl (by omega))
        clear hcz
        have e3 : Sort.scanDown (fun x => !ltI x d0[a]!) d0 i2 j = j2 := by rw [← HD.out]; exact down_stop HT.out
        have HSb : Hid (SB w g R d0 (wr.drewN nq)) := Lib.hid (HS3.out.drewN nq)
        clear HS3 HT
        generalize wr.drewN nq = wb at HSb ⊢
        have HE3 := Lib.hid e3
        clear e3
        have hend : j2 < i2 := by omega
        have hendz : (j2 : Int) < (i2 : Int) := by omega
        obtain ⟨u, hu, cu, fu⟩ := HSb.out.at_ (i := j2) (by rw [HZ.out]; omega)
        obtain ⟨v, hv, cv, fv⟩ := HSb.out.at_ (i := a) (by rw [HZ.out]; omega)
        obtain ⟨v', cv'⟩ := cell?_setCell_some (w := wb) (p := ⟨g, j2, none⟩) (x := .int .u64 v) (q := ⟨g, a, none⟩) (v := .int .u64 v) cv
        have HX := Lib.hid (And.intro hu hv)
        clear hu hv
        go_wp2_with fail
        go_region
        have HSc : Hid (SB w g R (swp d0 j2 a) ((wb.setCell ⟨g, j2, none⟩ (.int .u64 v)).setCell ⟨g, a, none⟩ (.int .u64 u)).drew) := Lib.hid (HSb.out.swapped (i := j2) (j := a) (by rw [HZ.out]; omega) (by rw [HZ.out]; omega) HX.out.1 HX.out.2).drew
        generalize ((wb.setCell ⟨g, j2, none⟩ (.int .u64 v)).setCell ⟨g, a, none⟩ (.int .u64 u)).drew = wc at HSc ⊢
        clear cu fu cv fv cv' HX
        go_wp2
        go_ret2
        have e := part_stop HD0.out HI.out HE2.out HE3.out hend
        rw [e]
        exact ⟨rfl, HSc.out⟩
end Go.Proofs.Ytagdolkfefbohaa
