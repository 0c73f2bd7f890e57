/- the partial insertion sort, at whole numbers. -/
import Derived.Test.YtagdolkfefbohaaSrt1
import Derived.BigQuiet
namespace Go.Proofs.Ytagdolkfefbohaa
open Go.RowKit Stv
open Go.Sort (swp)

theorem ss_go {b i : Nat} {d : Array Int} (h : i < b) (hl : ltI d[i]! d[i - 1]! = false) : Sort.scanSorted ltI d b (i + 1) = Sort.scanSorted ltI d b i := by
  conv => rhs; rw [Sort.scanSorted]
  rw [if_pos (by simp [h, hl])]
theorem ss_stop {b i : Nat} {d : Array Int} (h : ¬ i < b ∨ ltI d[i]! d[i - 1]! = true) : Sort.scanSorted ltI d b i = i := by
  rw [Sort.scanSorted]
  rcases h with h | h
  · rw [if_neg (by simp [h])]
  · rw [if_neg (by simp [h])]
theorem sd_go {j : Nat} {d : Array Int} (h : 1 ≤ j) (hl : ltI d[j]! d[j - 1]! = true) : Sort.shiftDown ltI (j - 1) (swp d j (j - 1)) = Sort.shiftDown ltI j d := by
  obtain ⟨k, rfl⟩ : ∃ k, j = k + 1 := ⟨j - 1, by omega⟩
  conv => rhs; rw [Sort.shiftDown]
  simp only [Nat.add_sub_cancel] at hl ⊢
  simp [hl]
theorem sd_stop {j : Nat} {d : Array Int} (h : ¬ 1 ≤ j ∨ ltI d[j]! d[j - 1]! = false) : Sort.shiftDown ltI j d = d := by
  cases j with
  | zero => rfl
  | succ k =>
    rw [Sort.shiftDown]
    rcases h with h | h
    · omega
    · simp only [Nat.add_sub_cancel] at h
      simp [h]
theorem su_go {b j : Nat} {d : Array Int} (h : j < b) (hl : ltI d[j]! d[j - 1]! = true) : Sort.shiftUp ltI b (j + 1) (swp d j (j - 1)) = Sort.shiftUp ltI b j d := by
  conv => rhs; rw [Sort.shiftUp]
  simp [h, hl]
theorem su_stop {b j : Nat} {d : Array Int} (h : ¬ j < b ∨ ltI d[j]! d[j - 1]! = false) : Sort.shiftUp ltI b j d = d := by
  rw [Sort.shiftUp]
  rcases h with h | h
  · simp [h]
  · simp [h]
theorem pis_true {a b s i i2 : Nat} {d : Array Int} (h1 : Sort.scanSorted ltI d b i = i2) (h : i2 = b) : Sort.partialIns ltI a b (s + 1) i d = (d, true) := by
  rw [Sort.partialIns]; simp only [h1, if_pos h]
theorem pis_small {a b s i i2 : Nat} {d : Array Int} (h1 : Sort.scanSorted ltI d b i = i2) (h : ¬ i2 = b) (hs : b - a < 50) : Sort.partialIns ltI a b (s + 1) i d = (d, false) := by
  rw [Sort.partialIns]; simp only [h1, if_neg h, if_pos hs]
theorem pis_go {a b s i i2 : Nat} {d d2 d3 : Array Int} (h1 : Sort.scanSorted ltI d b i = i2) (h : ¬ i2 = b) (hs : ¬ b - a < 50)
    (h2 : d2 = if i2 - a ≥ 2 then Sort.shiftDown ltI (i2 - 1) (swp d i2 (i2 - 1)) else swp d i2 (i2 - 1)) (h3 : d3 = if b - i2 ≥ 2 then Sort.shiftUp ltI b (i2 + 1) d2 else d2) : Sort.partialIns ltI a b s i2 d3 = Sort.partialIns ltI a b (s + 1) i d := by
  conv => rhs; rw [Sort.partialIns]
  simp only [h1, if_neg h, if_neg hs]
  rw [← h2, ← h3]

set_option maxHeartbeats 6400000 in
set_option maxRecDepth 100000 in
theorem pins_any {w : World} {g : Nat} {d : Array Int} {R : List Value} (hR : RowB w g d R) {n cap : Nat} (hn : n = d.size) (hsz : d.size ≤ 1152921504606846976) {a b : Nat} (hab : a < b) (hb : b ≤ d.size) :
    Calls Try.prog 37 #[.slice (some ⟨g, 0, none⟩) n cap, .int .i64 a, .int .i64 b] w fun e w' => e = .returned (.bool (Sort.partialInsertionSort ltI d a b).2) ∧ SB w g R (Sort.partialInsertionSort ltI d a b).1 w' := by
  subst hn
  obtain ⟨N, hN⟩ : ∃ N, N = d.size := ⟨_, rfl⟩
  have HR := Lib.hid (SB.start hR)
  rw [← hN] at hb hsz ⊢
  have HN := Lib.hid hN
  clear hR hN
  go_enter Try.func37, Try.ntmps37
  go_wp2
  go_loopw [7, 8] (fun vi vs wr => ∃ (i s : Nat) (dk : Array Int), vi = .int .i64 i ∧ vs = .int .i64 ((5 : Int) - s) ∧ s ≤ 5 ∧ a < i ∧ i ≤ b ∧ dk.size = N ∧ SB w g R dk wr ∧ Sort.partialIns ltI a b s i dk = Sort.partialInsertionSort ltI d a b) (fun _ vs _ => (5 - intOf vs).toNat)
  case atStart => exact ⟨a + 1, 5, d, rfl, rfl, by omega, by omega, by omega, HN.out.symm, HR.out, rfl⟩
  case round =>
    obtain ⟨i, s, dk, rfl, rfl, hs5, hai, hib', hs, hS, hE⟩ := hrel
    have HE := Lib.hid hE
    have HS := Lib.hid hS
    have HZ := Lib.hid hs
    clear hE hS hs
    rcases s with _ | s
    · rw [show ((5 : Int) - ((0 : Nat) : Int)) = 5 by omega]
      go_wp2
      go_ret
      rw [← HE.out]
      exact ⟨rfl, HS.out⟩
    · obtain ⟨t, ht⟩ : ∃ t : Int, (5 : Int) - ((s + 1 : Nat) : Int) = t := ⟨_, rfl⟩
      rw [ht]
      have ht5 : t < 5 := by omega
      have ht0 : 0 ≤ t := by omega
      have hts : t + 1 = 5 - (s : Int) := by omega
      have HTs := Lib.hid hts
      clear ht hts
      go_wp2_with fail
      go_loopw [7] (fun vi wr2 => ∃ i2 : Nat, vi = .int .i64 i2 ∧ a < i2 ∧ i2 ≤ b ∧ SB w g R dk wr2 ∧ Sort.scanSorted ltI dk b i2 = Sort.scanSorted ltI dk b i) (fun vi _ => b - (intOf vi).toNat)
      case atStart => exact ⟨i, rfl, hai, hib', HS.out, rfl⟩
      case round =>
        obtain ⟨i2, rfl, hai2, hi2b, hS, hU⟩ := hrel
        have HU := Lib.hid hU
        have HS1 := Lib.hid hS
        clear hU hS
        by_cases hi2 : i2 < b
        · have hi2z : (i2 : Int) < (b : Int) := by omega
          obtain ⟨x, hx, cx, fx⟩ := HS1.out.at_ (i := i2) (by rw [HZ.out]; omega)
          obtain ⟨y, hy, cy, fy⟩ := HS1.out.at_ (i := i2 - 1) (by rw [HZ.out]; omega)
          have HX := Lib.hid (And.intro hx hy)
          clear hx hy
          by_cases hl : ltI x y = true
          · go_wp2_with fail
            go_big_quiet ((go_at_call 38; exact Calls.quiet_of_same (less_yes hl _)))
            have HE1 := Lib.hid ((HU.out.symm).trans (ss_stop (.inr (by rw [← HX.out.1, ← HX.out.2]; exact hl))))
            have cx2 : (wr.drewN nq).cell? ⟨g, i2, none⟩ = some (.int .u64 x) := cx
            have fx2 : (wr.drewN nq).frozen? ⟨g, i2, none⟩ = false := fx
            have cy2 : (wr.drewN nq).cell? ⟨g, i2 - 1, none⟩ = some (.int .u64 y) := cy
            have fy2 : (wr.drewN nq).frozen? ⟨g, i2 - 1, none⟩ = false := fy
            have HSb : Hid (SB w g R dk (wr.drewN nq)) := Lib.hid (HS1.out.drewN nq)
            clear cx fx cy fy HS1
            generalize wr.drewN nq = wb at cx2 fx2 cy2 fy2 HSb ⊢
            have hib : ¬ i2 = b := by omega
            have hibz : ¬ ((i2 : Int) = (b : Int)) := by omega
            by_cases hsm : b - a < 50
            · have hsmz : (b : Int) - (a : Int) < 50 := by omega
              go_wp2
              go_ret
              rw [← HE.out, pis_small HE1.out hib hsm]
              exact ⟨rfl, HSb.out⟩
            · have hsmz : ¬ ((b : Int) - (a : Int) < 50) := by omega
              go_wp2
              go_region
              have HSc : Hid (SB w g R (swp dk i2 (i2 - 1)) ((wb.setCell ⟨g, i2, none⟩ (.int .u64 y)).setCell ⟨g, i2 - 1, none⟩ (.int .u64 x)).drew) := Lib.hid (HSb.out.swapped (i := i2) (j := i2 - 1) (by rw [HZ.out]; omega) (by rw [HZ.out]; omega) HX.out.1 HX.out.2).drew
              generalize ((wb.setCell ⟨g, i2, none⟩ (.int .u64 y)).setCell ⟨g, i2 - 1, none⟩ (.int .u64 x)).drew = wc at HSc ⊢
              clear cx2 fx2 cy2 fy2 HX HSb
              have HZc : Hid ((swp dk i2 (i2 - 1)).size = N) := Lib.hid (by rw [swp_size]; exact HZ.out)
              by_cases hA : i2 - a ≥ 2
              · have hAz : (2 : Int) ≤ (i2 : Int) - (a : Int) := by omega
                go_wp2_with fail
                go_loopw [9] (fun vj wr => ∃ (j : Nat) (dj : Array Int), vj = .int .i64 j ∧ j < i2 ∧ dj.size = N ∧ SB w g R dj wr ∧ Sort.shiftDown ltI j dj = Sort.shiftDown ltI (i2 - 1) (swp dk i2 (i2 - 1))) (fun vj _ => (intOf vj).toNat)
                case atStart => exact ⟨i2 - 1, _, by congr 1; omega, by omega, HZc.out, HSc.out, rfl⟩
                case round =>
                  obtain ⟨j, dj, rfl, hji, hs, hS, hE⟩ := hrel
                  have HEd := Lib.hid hE
                  have HSd := Lib.hid hS
                  have HZ2 := Lib.hid hs
                  clear hE hS hs
                  by_cases hj : 1 ≤ j
                  · obtain ⟨x, hx, cx, fx⟩ := HSd.out.at_ (i := j) (by rw [HZ2.out]; omega)
                    obtain ⟨y, hy, cy, fy⟩ := HSd.out.at_ (i := j - 1) (by rw [HZ2.out]; omega)
                    have HX := Lib.hid (And.intro hx hy)
                    clear hx hy
                    by_cases hl : ltI x y = true
                    · go_wp2_with fail
                      go_big_quiet ((go_at_call 38; exact Calls.quiet_of_same (less_yes hl _)))
                      go_wp2
                      go_region
                      go_wp2_with fail
                      go_roundw
                      case rel => exact ⟨j - 1, swp dj j (j - 1), by congr 1; omega, by omega, by rw [swp_size]; exact HZ2.out, (HSd.out.drewN _).swapped (by rw [HZ2.out]; omega) (by rw [HZ2.out]; omega) HX.out.1 HX.out.2, (sd_go hj (by rw [← HX.out.1, ← HX.out.2]; exact hl)).trans HEd.out⟩
                      case measure => simp [intOf]; omega
                    · have hl : ltI x y = false := by simpa using hl
                      go_wp2_with fail
                      go_big_quiet ((go_at_call 38; exact Calls.quiet_of_same (less_no hl _)))
                      have e2 : dj = Sort.shiftDown ltI (i2 - 1) (swp dk i2 (i2 - 1)) := (sd_stop (.inr (by rw [← HX.out.1, ← HX.out.2]; exact hl))).symm.trans HEd.out
                      have HE2 : Hid (dj = if i2 - a ≥ 2 then Sort.shiftDown ltI (i2 - 1) (swp dk i2 (i2 - 1)) else swp dk i2 (i2 - 1)) := Lib.hid (by rw [if_pos hA]; exact e2)
                      have HS2 : Hid (SB w g R dj (wr.drewN nq)) := Lib.hid (HSd.out.drewN nq)
                      clear e2 cx fx cy fy HX HSd
                      generalize wr.drewN nq = wd at HS2 ⊢
                      by_cases hB : b - i2 ≥ 2
                      · have hBz : (2 : Int) ≤ (b : Int) - (i2 : Int) := by omega
                        go_wp2_with fail
                        go_loopw [10] (fun vj wr => ∃ (j : Nat) (dm : Array Int), vj = .int .i64 j ∧ i2 < j ∧ j ≤ b ∧ dm.size = N ∧ SB w g R dm wr ∧ Sort.shiftUp ltI b j dm = Sort.shiftUp ltI b (i2 + 1) dj) (fun vj _ => b - (intOf vj).toNat)
                        case atStart => exact ⟨i2 + 1, dj, rfl, by omega, by omega, HZ2.out, HS2.out, rfl⟩
                        case round =>
                          obtain ⟨j, dm, rfl, hij, hjb, hs, hS, hE⟩ := hrel
                          have HEu := Lib.hid hE
                          have HSu := Lib.hid hS
                          have HZ3 := Lib.hid hs
                          clear hE hS hs
                          by_cases hj : j < b
                          · obtain ⟨x, hx, cx, fx⟩ := HSu.out.at_ (i := j) (by rw [HZ3.out]; omega)
                            obtain ⟨y, hy, cy, fy⟩ := HSu.out.at_ (i := j - 1) (by rw [HZ3.out]; omega)
                            have HX := Lib.hid (And.intro hx hy)
                            clear hx hy
                            by_cases hl : ltI x y = true
                            · go_wp2_with fail
                              go_big_quiet ((go_at_call 38; exact Calls.quiet_of_same (less_yes hl _)))
                              go_wp2
                              go_region
                              go_wp2_with fail
                              go_roundw
                              case rel => exact ⟨j + 1, swp dm j (j - 1), rfl, by omega, by omega, by rw [swp_size]; exact HZ3.out, (HSu.out.drewN _).swapped (by rw [HZ3.out]; omega) (by rw [HZ3.out]; omega) HX.out.1 HX.out.2, (su_go hj (by rw [← HX.out.1, ← HX.out.2]; exact hl)).trans HEu.out⟩
                              case measure => simp [intOf]; omega
                            · have hl : ltI x y = false := by simpa using hl
                              go_wp2_with fail
                              go_big_quiet ((go_at_call 38; exact Calls.quiet_of_same (less_no hl _)))
                              have HS3 : Hid (SB w g R dm (wr.drewN nq)) := Lib.hid (HSu.out.drewN nq)
                              have e3 : dm = Sort.shiftUp ltI b (i2 + 1) dj := (su_stop (.inr (by rw [← HX.out.1, ← HX.out.2]; exact hl))).symm.trans HEu.out
                              have E3 := Lib.hid e3
                              clear e3
                              go_wp2
                              go_roundw
                              case rel => exact ⟨i2, s, dm, rfl, congrArg (Value.int .i64) HTs.out, by omega, by omega, by omega, HZ3.out, HS3.out, (pis_go HE1.out hib hsm HE2.out (by rw [if_pos hB]; exact E3.out)).trans HE.out⟩
                              case measure => simp [intOf]; omega
                          · go_wp2_with fail
                            have HS3 := HSu
                            have e3 : dm = Sort.shiftUp ltI b (i2 + 1) dj := (su_stop (.inl hj)).symm.trans HEu.out
                            have E3 := Lib.hid e3
                            clear e3
                            go_wp2
                            go_roundw
                            case rel => exact ⟨i2, s, dm, rfl, congrArg (Value.int .i64) HTs.out, by omega, by omega, by omega, HZ3.out, HS3.out, (pis_go HE1.out hib hsm HE2.out (by rw [if_pos hB]; exact E3.out)).trans HE.out⟩
                            case measure => simp [intOf]; omega
                      · have hBz : ¬ ((2 : Int) ≤ (b : Int) - (i2 : Int)) := by omega
                        have HS3 := HS2
                        have HZ3 := HZ2
                        go_wp2
                        go_roundw
                        case rel => exact ⟨i2, s, dj, rfl, congrArg (Value.int .i64) HTs.out, by omega, by omega, by omega, HZ3.out, HS3.out, (pis_go HE1.out hib hsm HE2.out (by rw [if_neg hB])).trans HE.out⟩
                        case measure => simp [intOf]; omega
                  · have e2 : dj = Sort.shiftDown ltI (i2 - 1) (swp dk i2 (i2 - 1)) := (sd_stop (.inl hj)).symm.trans HEd.out
                    have HE2 : Hid (dj = if i2 - a ≥ 2 then Sort.shiftDown ltI (i2 - 1) (swp dk i2 (i2 - 1)) else swp dk i2 (i2 - 1)) := Lib.hid (by rw [if_pos hA]; exact e2)
                    have HS2 := HSd
                    clear e2 HSd
                    by_cases hB : b - i2 ≥ 2
                    · have hBz : (2 : Int) ≤ (b : Int) - (i2 : Int) := by omega
                      go_wp2_with fail
                      go_loopw [10] (fun vj wr => ∃ (j : Nat) (dm : Array Int), vj = .int .i64 j ∧ i2 < j ∧ j ≤ b ∧ dm.size = N ∧ SB w g R dm wr ∧ Sort.shiftUp ltI b j dm = Sort.shiftUp ltI b (i2 + 1) dj) (fun vj _ => b - (intOf vj).toNat)
                      case atStart => exact ⟨i2 + 1, dj, rfl, by omega, by omega, HZ2.out, HS2.out, rfl⟩
                      case round =>
                        obtain ⟨j, dm, rfl, hij, hjb, hs, hS, hE⟩ := hrel
                        have HEu := Lib.hid hE
                        have HSu := Lib.hid hS
                        have HZ3 := Lib.hid hs
                        clear hE hS hs
                        by_cases hj : j < b
                        · obtain ⟨x, hx, cx, fx⟩ := HSu.out.at_ (i := j) (by rw [HZ3.out]; omega)
                          obtain ⟨y, hy, cy, fy⟩ := HSu.out.at_ (i := j - 1) (by rw [HZ3.out]; omega)
                          have HX := Lib.hid (And.intro hx hy)
                          clear hx hy
                          by_cases hl : ltI x y = true
                          · go_wp2_with fail
                            go_big_quiet ((go_at_call 38; exact Calls.quiet_of_same (less_yes hl _)))
                            go_wp2
                            go_region
                            go_wp2_with fail
                            go_roundw
                            case rel => exact ⟨j + 1, swp dm j (j - 1), rfl, by omega, by omega, by rw [swp_size]; exact HZ3.out, (HSu.out.drewN _).swapped (by rw [HZ3.out]; omega) (by rw [HZ3.out]; omega) HX.out.1 HX.out.2, (su_go hj (by rw [← HX.out.1, ← HX.out.2]; exact hl)).trans HEu.out⟩
                            case measure => simp [intOf]; omega
                          · have hl : ltI x y = false := by simpa using hl
                            go_wp2_with fail
                            go_big_quiet ((go_at_call 38; exact Calls.quiet_of_same (less_no hl _)))
                            have HS3 : Hid (SB w g R dm (wr.drewN nq)) := Lib.hid (HSu.out.drewN nq)
                            have e3 : dm = Sort.shiftUp ltI b (i2 + 1) dj := (su_stop (.inr (by rw [← HX.out.1, ← HX.out.2]; exact hl))).symm.trans HEu.out
                            have E3 := Lib.hid e3
                            clear e3
                            go_wp2
                            go_roundw
                            case rel => exact ⟨i2, s, dm, rfl, congrArg (Value.int .i64) HTs.out, by omega, by omega, by omega, HZ3.out, HS3.out, (pis_go HE1.out hib hsm HE2.out (by rw [if_pos hB]; exact E3.out)).trans HE.out⟩
                            case measure => simp [intOf]; omega
                        · go_wp2_with fail
                          have HS3 := HSu
                          have e3 : dm = Sort.shiftUp ltI b (i2 + 1) dj := (su_stop (.inl hj)).symm.trans HEu.out
                          have E3 := Lib.hid e3
                          clear e3
                          go_wp2
                          go_roundw
                          case rel => exact ⟨i2, s, dm, rfl, congrArg (Value.int .i64) HTs.out, by omega, by omega, by omega, HZ3.out, HS3.out, (pis_go HE1.out hib hsm HE2.out (by rw [if_pos hB]; exact E3.out)).trans HE.out⟩
                          case measure => simp [intOf]; omega
                    · have hBz : ¬ ((2 : Int) ≤ (b : Int) - (i2 : Int)) := by omega
                      have HS3 := HS2
                      have HZ3 := HZ2
                      go_wp2
                      go_roundw
                      case rel => exact ⟨i2, s, dj, rfl, congrArg (Value.int .i64) HTs.out, by omega, by omega, by omega, HZ3.out, HS3.out, (pis_go HE1.out hib hsm HE2.out (by rw [if_neg hB])).trans HE.out⟩
                      case measure => simp [intOf]; omega
              · have hAz : ¬ ((2 : Int) ≤ (i2 : Int) - (a : Int)) := by omega
                have HE2 : Hid (swp dk i2 (i2 - 1) = if i2 - a ≥ 2 then Sort.shiftDown ltI (i2 - 1) (swp dk i2 (i2 - 1)) else swp dk i2 (i2 - 1)) := Lib.hid (by rw [if_neg hA])
                have HS2 := HSc
                have HZ2 := HZc
                by_cases hB : b - i2 ≥ 2
                · have hBz : (2 : Int) ≤ (b : Int) - (i2 : Int) := by omega
                  go_wp2_with fail
                  go_loopw [10] (fun vj wr => ∃ (j : Nat) (dm : Array Int), vj = .int .i64 j ∧ i2 < j ∧ j ≤ b ∧ dm.size = N ∧ SB w g R dm wr ∧ Sort.shiftUp ltI b j dm = Sort.shiftUp ltI b (i2 + 1) (swp dk i2 (i2 - 1))) (fun vj _ => b - (intOf vj).toNat)
                  case atStart => exact ⟨i2 + 1, (swp dk i2 (i2 - 1)), rfl, by omega, by omega, HZ2.out, HS2.out, rfl⟩
                  case round =>
                    obtain ⟨j, dm, rfl, hij, hjb, hs, hS, hE⟩ := hrel
                    have HEu := Lib.hid hE
                    have HSu := Lib.hid hS
                    have HZ3 := Lib.hid hs
                    clear hE hS hs
                    by_cases hj : j < b
                    · obtain ⟨x, hx, cx, fx⟩ := HSu.out.at_ (i := j) (by rw [HZ3.out]; omega)
                      obtain ⟨y, hy, cy, fy⟩ := HSu.out.at_ (i := j - 1) (by rw [HZ3.out]; omega)
                      have HX := Lib.hid (And.intro hx hy)
                      clear hx hy
                      by_cases hl : ltI x y = true
                      · go_wp2_with fail
                        go_big_quiet ((go_at_call 38; exact Calls.quiet_of_same (less_yes hl _)))
                        go_wp2
                        go_region
                        go_wp2_with fail
                        go_roundw
                        case rel => exact ⟨j + 1, swp dm j (j - 1), rfl, by omega, by omega, by rw [swp_size]; exact HZ3.out, (HSu.out.drewN _).swapped (by rw [HZ3.out]; omega) (by rw [HZ3.out]; omega) HX.out.1 HX.out.2, (su_go hj (by rw [← HX.out.1, ← HX.out.2]; exact hl)).trans HEu.out⟩
                        case measure => simp [intOf]; omega
                      · have hl : ltI x y = false := by simpa using hl
                        go_wp2_with fail
                        go_big_quiet ((go_at_call 38; exact Calls.quiet_of_same (less_no hl _)))
                        have HS3 : Hid (SB w g R dm (wr.drewN nq)) := Lib.hid (HSu.out.drewN nq)
                        have e3 : dm = Sort.shiftUp ltI b (i2 + 1) (swp dk i2 (i2 - 1)) := (su_stop (.inr (by rw [← HX.out.1, ← HX.out.2]; exact hl))).symm.trans HEu.out
                        have E3 := Lib.hid e3
                        clear e3
                        go_wp2
                        go_roundw
                        case rel => exact ⟨i2, s, dm, rfl, congrArg (Value.int .i64) HTs.out, by omega, by omega, by omega, HZ3.out, HS3.out, (pis_go HE1.out hib hsm HE2.out (by rw [if_pos hB]; exact E3.out)).trans HE.out⟩
                        case measure => simp [intOf]; omega
                    · go_wp2_with fail
                      have HS3 := HSu
                      have e3 : dm = Sort.shiftUp ltI b (i2 + 1) (swp dk i2 (i2 - 1)) := (su_stop (.inl hj)).symm.trans HEu.out
                      have E3 := Lib.hid e3
                      clear e3
                      go_wp2
                      go_roundw
                      case rel => exact ⟨i2, s, dm, rfl, congrArg (Value.int .i64) HTs.out, by omega, by omega, by omega, HZ3.out, HS3.out, (pis_go HE1.out hib hsm HE2.out (by rw [if_pos hB]; exact E3.out)).trans HE.out⟩
                      case measure => simp [intOf]; omega
                · have hBz : ¬ ((2 : Int) ≤ (b : Int) - (i2 : Int)) := by omega
                  have HS3 := HS2
                  have HZ3 := HZ2
                  go_wp2
                  go_roundw
                  case rel => exact ⟨i2, s, (swp dk i2 (i2 - 1)), rfl, congrArg (Value.int .i64) HTs.out, by omega, by omega, by omega, HZ3.out, HS3.out, (pis_go HE1.out hib hsm HE2.out (by rw [if_neg hB])).trans HE.out⟩
                  case measure => simp [intOf]; omega
          · have hl : ltI x y = false := by simpa using hl
            go_wp2_with fail
            go_big_quiet ((go_at_call 38; exact Calls.quiet_of_same (less_no hl _)))
            go_wp2
            go_roundw
            case rel => exact ⟨i2 + 1, rfl, by omega, by omega, HS1.out.drewN _, (ss_go hi2 (by rw [← HX.out.1, ← HX.out.2]; exact hl)).trans HU.out⟩
            case measure => simp [intOf]; omega
        · have hi2z : decide ((i2 : Int) < (b : Int)) = false := decide_eq_false (by omega)
          have hib : i2 = b := by omega
          go_wp2_with fail
          go_big_quiet (fail)
          have HE1 := Lib.hid ((HU.out.symm).trans (ss_stop (.inl hi2)))
          subst hib
          go_wp2
          go_ret
          rw [← HE.out, pis_true HE1.out rfl]
          exact ⟨rfl, HS1.out.drewN _⟩
end Go.Proofs.Ytagdolkfefbohaa
