/- heap sort at whole numbers. -/
import Derived.Test.YtagdolkfefbohaaSrt1
import Derived.BigQuiet
namespace Go.Proofs.Ytagdolkfefbohaa
open Go.RowKit Stv
open Go.Sort (swp)

theorem sift_stop {hi first r : Nat} {d : Array Int} (h : hi ≤ 2 * r + 1) : Sort.siftDown ltI hi first r d = d := by rw [Sort.siftDown, dif_pos h]
theorem sift_low {hi first r : Nat} {d : Array Int} (h : 2 * r + 1 < hi) (hn : ¬ (2 * r + 2 < hi ∧ ltI d[first + (2 * r + 1)]! d[first + (2 * r + 2)]! = true)) :
    Sort.siftDown ltI hi first r d = if ltI d[first + r]! d[first + (2 * r + 1)]! = true then Sort.siftDown ltI hi first (2 * r + 1) (swp d (first + r) (first + (2 * r + 1))) else d := by
  conv => lhs; rw [Sort.siftDown]
  rw [dif_neg (by omega)]
  rw [if_neg (by simpa [Nat.add_assoc] using hn)]
  by_cases hl : ltI d[first + r]! d[first + (2 * r + 1)]! = true <;> simp [hl]
theorem sift_high {hi first r : Nat} {d : Array Int} (h : 2 * r + 2 < hi) (hn : ltI d[first + (2 * r + 1)]! d[first + (2 * r + 2)]! = true) :
    Sort.siftDown ltI hi first r d = if ltI d[first + r]! d[first + (2 * r + 2)]! = true then Sort.siftDown ltI hi first (2 * r + 2) (swp d (first + r) (first + (2 * r + 2))) else d := by
  conv => lhs; rw [Sort.siftDown]
  rw [dif_neg (by omega)]
  rw [if_pos (by simpa [Nat.add_assoc] using ⟨h, hn⟩)]
  rw [dif_pos h]
  by_cases hl : ltI d[first + r]! d[first + (2 * r + 2)]! = true <;> simp [hl]

theorem sift_high' {hi first r c : Nat} {d : Array Int} (hc : c = 2 * r + 1) (h : c + 1 < hi) (hn : ltI d[first + c]! d[first + (c + 1)]! = true) :
    Sort.siftDown ltI hi first r d = if ltI d[first + r]! d[first + (c + 1)]! = true then Sort.siftDown ltI hi first (c + 1) (swp d (first + r) (first + (c + 1))) else d := by
  subst hc; exact sift_high h hn
theorem sift_low' {hi first r c : Nat} {d : Array Int} (hc : c = 2 * r + 1) (h : c < hi) (hn : ¬ (c + 1 < hi ∧ ltI d[first + c]! d[first + (c + 1)]! = true)) :
    Sort.siftDown ltI hi first r d = if ltI d[first + r]! d[first + c]! = true then Sort.siftDown ltI hi first c (swp d (first + r) (first + c)) else d := by
  subst hc; exact sift_low h hn

set_option maxHeartbeats 1600000 in
theorem sift_any {w : World} {g : Nat} {d : Array Int} {R : List Value} (hR : RowB w g d R) {n cap : Nat} (hn : n = d.size) (hsz : d.size ≤ 1152921504606846976) {lo hi first : Nat} (hlo : lo ≤ hi) (hhi : first + hi ≤ d.size) :
    Calls Try.prog 43 #[.slice (some ⟨g, 0, none⟩) n cap, .int .i64 lo, .int .i64 hi, .int .i64 first] w fun e w' => e = .returned (.tuple #[]) ∧ SB w g R (Sort.siftDown ltI hi first lo d) w' := by
  subst hn
  have HR := Lib.hid (SB.start hR)
  obtain ⟨N, hN⟩ : ∃ N, N = d.size := ⟨_, rfl⟩
  rw [← hN] at hhi hsz ⊢
  have HN := Lib.hid hN
  clear hR hN
  go_enter Try.func43, Try.ntmps43
  go_wp2
  go_loopw [8] (fun vr wr => ∃ (r : Nat) (dk : Array Int), vr = .int .i64 r ∧ r ≤ hi ∧ dk.size = N ∧ SB w g R dk wr ∧ Sort.siftDown ltI hi first r dk = Sort.siftDown ltI hi first lo d) (fun vr _ => hi - (intOf vr).toNat)
  case atStart => exact ⟨lo, d, rfl, hlo, HN.out.symm, HR.out, rfl⟩
  case round =>
    obtain ⟨r, dk, rfl, hr, hs, hS, hE⟩ := hrel
    have HE := Lib.hid hE
    clear hE
    by_cases hc : 2 * r + 1 < hi
    · obtain ⟨x, hx, cx, fx⟩ := hS.at_ (i := first + r) (by omega)
      have HS := Lib.hid hS
      clear hS
      go_wp2
      obtain ⟨c, hcI, hcN⟩ : ∃ c : Nat, 2 * (r : Int) + 1 = c ∧ c = 2 * r + 1 := ⟨2 * r + 1, by omega, rfl⟩
      obtain ⟨y, hy, cy, fy⟩ := HS.out.at_ (i := first + c) (by omega)
      rw [hcI]
      have hch : c < hi := by omega
      have HC := Lib.hid hcN
      have HC' := Lib.hid hc
      by_cases hc2 : c + 1 < hi
      · have hc2z : (c : Int) + 1 < (hi : Int) := by omega
        obtain ⟨z, hz, cz, fz⟩ := HS.out.at_ (i := first + (c + 1)) (by omega)
        have cz' : wr.cell? ⟨g, first + c + 1, none⟩ = some (.int .u64 z) := cz
        have fz' : wr.frozen? ⟨g, first + c + 1, none⟩ = false := fz
        have HX := Lib.hid (And.intro hx (And.intro hy hz))
        have HZ := Lib.hid hs
        clear hx hy hz hs hcI hcN hc
        by_cases hl : ltI y z = true
        · go_big_quiet ((go_at_call 38; exact Calls.quiet_of_same (less_yes hl _)))
          go_wp2

          have HS2 := Lib.hid (HS.out.drewN nq)
          have cx2 : (wr.drewN nq).cell? ⟨g, first + r, none⟩ = some (.int .u64 x) := cx
          have fx2 : (wr.drewN nq).frozen? ⟨g, first + r, none⟩ = false := fx
          have cz2 : (wr.drewN nq).cell? ⟨g, first + (c + 1), none⟩ = some (.int .u64 z) := cz
          have fz2 : (wr.drewN nq).frozen? ⟨g, first + (c + 1), none⟩ = false := fz
          clear HS cx fx
          generalize wr.drewN nq = wr2 at HS2 cx2 fx2 cz2 fz2 ⊢
          clear nq
          by_cases hl2 : ltI x z = true
          · go_big_quiet ((go_at_call 38; exact Calls.quiet_of_same (less_yes hl2 _)))
            go_wp2
            have HK : first + r ≠ first + (c + 1) := by have hc := HC.out; omega
            go_region
            all_goals go_wp2
            go_roundw
            case rel =>
              have hs := HZ.out
              have hx := HX.out
              have hc := HC.out
              refine ⟨(c + 1), swp dk (first + r) (first + (c + 1)), rfl, by omega, by rw [swp_size]; exact hs, (HS2.out.drewN _).swapped (by omega) (by omega) hx.1 hx.2.2, ?_⟩
              rw [← HE.out, sift_high' hc hc2 (by rw [← hx.2.1, ← hx.2.2]; exact hl), if_pos (by rw [← hx.1, ← hx.2.2]; exact hl2)]
            case measure => have hc := HC.out; simp [intOf]; omega
          · have hl2 : ltI x z = false := by simpa using hl2
            go_big_quiet ((go_at_call 38; exact Calls.quiet_of_same (less_no hl2 _)))
            go_wp2
            (try simp only [Exit.inBlock, Exit.then]); refine bodyPost_ret (results_none rfl _ _ _) rfl ?_
            refine ⟨rfl, ?_⟩
            have hx := HX.out
            have hc := HC.out
            have : Sort.siftDown ltI hi first r dk = dk := by
              rw [sift_high' hc hc2 (by rw [← hx.2.1, ← hx.2.2]; exact hl), if_neg (by rw [← hx.1, ← hx.2.2, hl2]; decide)]
            rw [← HE.out, this]
            exact HS2.out.drewN _
        · have hl : ltI y z = false := by simpa using hl
          go_big_quiet ((go_at_call 38; exact Calls.quiet_of_same (less_no hl _)))
          go_wp2
          clear cz cz' fz fz'
          have HS2 := Lib.hid (HS.out.drewN nq)
          have cx2 : (wr.drewN nq).cell? ⟨g, first + r, none⟩ = some (.int .u64 x) := cx
          have fx2 : (wr.drewN nq).frozen? ⟨g, first + r, none⟩ = false := fx
          have cz2 : (wr.drewN nq).cell? ⟨g, first + c, none⟩ = some (.int .u64 y) := cy
          have fz2 : (wr.drewN nq).frozen? ⟨g, first + c, none⟩ = false := fy
          clear HS cx fx
          generalize wr.drewN nq = wr2 at HS2 cx2 fx2 cz2 fz2 ⊢
          clear nq
          by_cases hl2 : ltI x y = true
          · go_big_quiet ((go_at_call 38; exact Calls.quiet_of_same (less_yes hl2 _)))
            go_wp2
            have HK : first + r ≠ first + c := by have hc := HC.out; omega
            go_region
            all_goals go_wp2
            go_roundw
            case rel =>
              have hs := HZ.out
              have hx := HX.out
              have hc := HC.out
              refine ⟨c, swp dk (first + r) (first + c), rfl, by omega, by rw [swp_size]; exact hs, (HS2.out.drewN _).swapped (by omega) (by omega) hx.1 hx.2.1, ?_⟩
              rw [← HE.out, sift_low' hc hch (by rw [← hx.2.1, ← hx.2.2, hl]; simp), if_pos (by rw [← hx.1, ← hx.2.1]; exact hl2)]
            case measure => have hc := HC.out; simp [intOf]; omega
          · have hl2 : ltI x y = false := by simpa using hl2
            go_big_quiet ((go_at_call 38; exact Calls.quiet_of_same (less_no hl2 _)))
            go_wp2
            (try simp only [Exit.inBlock, Exit.then]); refine bodyPost_ret (results_none rfl _ _ _) rfl ?_
            refine ⟨rfl, ?_⟩
            have hx := HX.out
            have hc := HC.out
            have : Sort.siftDown ltI hi first r dk = dk := by
              rw [sift_low' hc hch (by rw [← hx.2.1, ← hx.2.2, hl]; simp), if_neg (by rw [← hx.1, ← hx.2.1, hl2]; decide)]
            rw [← HE.out, this]
            exact HS2.out.drewN _
      · have hc2z : decide ((c : Int) + 1 < (hi : Int)) = false := decide_eq_false (by omega)
        have HX := Lib.hid (And.intro hx hy)
        have HZ := Lib.hid hs
        clear hx hy hs hcI hcN hc
        go_big_quiet (fail)
        go_wp2
        have HS2 := Lib.hid (HS.out.drewN nq)
        have cx2 : (wr.drewN nq).cell? ⟨g, first + r, none⟩ = some (.int .u64 x) := cx
        have fx2 : (wr.drewN nq).frozen? ⟨g, first + r, none⟩ = false := fx
        have cz2 : (wr.drewN nq).cell? ⟨g, first + c, none⟩ = some (.int .u64 y) := cy
        have fz2 : (wr.drewN nq).frozen? ⟨g, first + c, none⟩ = false := fy
        clear HS cx fx
        generalize wr.drewN nq = wr2 at HS2 cx2 fx2 cz2 fz2 ⊢
        clear nq
        by_cases hl2 : ltI x y = true
        · go_big_quiet ((go_at_call 38; exact Calls.quiet_of_same (less_yes hl2 _)))
          go_wp2
          have HK : first + r ≠ first + c := by have hc := HC.out; omega
          go_region
          all_goals go_wp2
          go_roundw
          case rel =>
            have hs := HZ.out
            have hx := HX.out
            have hc := HC.out
            refine ⟨c, swp dk (first + r) (first + c), rfl, by omega, by rw [swp_size]; exact hs, (HS2.out.drewN _).swapped (by omega) (by omega) hx.1 hx.2, ?_⟩
            rw [← HE.out, sift_low' hc hch (by simp [hc2]), if_pos (by rw [← hx.1, ← hx.2]; exact hl2)]
          case measure => have hc := HC.out; simp [intOf]; omega
        · have hl2 : ltI x y = false := by simpa using hl2
          go_big_quiet ((go_at_call 38; exact Calls.quiet_of_same (less_no hl2 _)))
          go_wp2
          (try simp only [Exit.inBlock, Exit.then]); refine bodyPost_ret (results_none rfl _ _ _) rfl ?_
          refine ⟨rfl, ?_⟩
          have hx := HX.out
          have hc := HC.out
          have : Sort.siftDown ltI hi first r dk = dk := by
            rw [sift_low' hc hch (by simp [hc2]), if_neg (by rw [← hx.1, ← hx.2, hl2]; decide)]
          rw [← HE.out, this]
          exact HS2.out.drewN _
    · have HS := Lib.hid hS
      clear hS
      go_wp2
      go_end0
      exact ⟨rfl, by rw [← HE.out, sift_stop (by omega)]; exact HS.out⟩

/-! ### heapSort -/
theorem build_go (hi first k : Nat) (d : Array Int) : Sort.heapBuild ltI hi first k (Sort.siftDown ltI hi first k d) = Sort.heapBuild ltI hi first (k + 1) d := rfl
theorem pop_go (first k : Nat) (d : Array Int) : Sort.heapPop ltI first k (Sort.siftDown ltI k first 0 (swp d first (first + k))) = Sort.heapPop ltI first (k + 1) d := rfl
theorem sift_size (hi first r : Nat) (d : Array Int) : (Sort.siftDown ltI hi first r d).size = d.size := by
  fun_induction Sort.siftDown ltI hi first r d <;> simp_all [swp_size]

set_option maxHeartbeats 1600000 in
theorem heap_any {w : World} {g : Nat} {d : Array Int} {R : List Value} (hR : RowB w g d R) {n cap : Nat} (hn : n = d.size) (hsz : d.size ≤ 1152921504606846976) {a b : Nat} (hab : a < b) (hb : b ≤ d.size) :
    Calls Try.prog 33 #[.slice (some ⟨g, 0, none⟩) n cap, .int .i64 a, .int .i64 b] w fun e w' => e = .returned (.tuple #[]) ∧ SB w g R (Sort.heapSort ltI d a b) w' := by
  subst hn
  have HR := Lib.hid (SB.start hR)
  obtain ⟨N, hN⟩ : ∃ N, N = d.size := ⟨_, rfl⟩
  rw [← hN] at hb hsz ⊢
  have HN := Lib.hid hN
  clear hR hN
  go_enter Try.func33, Try.ntmps33
  go_wp2
  obtain ⟨L, hL, hLN⟩ : ∃ L : Nat, (b : Int) - a = L ∧ b = a + L := ⟨b - a, by omega, by omega⟩
  rw [hL]
  obtain ⟨M, hM, hMN⟩ : ∃ M : Nat, ((L : Int) - 1) / 2 = M ∧ M = (L - 1) / 2 := ⟨(L - 1) / 2, by omega, rfl⟩
  rw [hM]
  have HL := Lib.hid hL
  have HM := Lib.hid hM
  have HMN := Lib.hid hMN
  have hML : M < L := by omega
  have hE0 : Sort.heapSort ltI d a b = Sort.heapPop ltI a L (Sort.heapBuild ltI L a (M + 1) d) := by
    unfold Sort.heapSort
    rw [hMN, show b - a = L by omega]
  have HE0 := Lib.hid hE0
  have HLN := Lib.hid hLN
  have haL : a + L ≤ N := by omega
  have hL0 : 0 < L := by omega
  clear hL hM hMN hE0 hLN
  go_loopw [9] (fun vi wr => ∃ (k : Nat) (dk : Array Int), vi = .int .i64 ((k : Int) - 1) ∧ k ≤ M + 1 ∧ dk.size = N ∧ SB w g R dk wr ∧ Sort.heapBuild ltI L a k dk = Sort.heapBuild ltI L a (M + 1) d) (fun vi _ => (intOf vi + 1).toNat)
  case atStart => exact ⟨M + 1, d, by congr 1; omega, Nat.le_refl _, HN.out.symm, HR.out, rfl⟩
  case round =>
    obtain ⟨k, dk, rfl, hk, hs, hS, hE⟩ := hrel
    have HE := Lib.hid hE
    have HS := Lib.hid hS
    have HZ := Lib.hid hs
    clear hE hS hs
    rcases k with _ | k
    · rw [show (((0 : Nat) : Int) - 1) = -1 by omega]
      go_wp2
      go_loopw [10] (fun vi wr => ∃ (k : Nat) (dk : Array Int), vi = .int .i64 ((k : Int) - 1) ∧ k ≤ L ∧ dk.size = N ∧ SB w g R dk wr ∧ Sort.heapPop ltI a k dk = Sort.heapSort ltI d a b) (fun vi _ => (intOf vi + 1).toNat)
      case atStart => exact ⟨L, dk, rfl, Nat.le_refl _, HZ.out, HS.out, by rw [HE0.out, ← HE.out]; rfl⟩
      case round =>
        obtain ⟨k, dk, rfl, hk, hs, hS, hE⟩ := hrel
        have HE := Lib.hid hE
        rcases k with _ | k
        · rw [show (((0 : Nat) : Int) - 1) = -1 by omega]
          have HS := Lib.hid hS
          clear hE hS
          go_wp2
          go_end0
          exact ⟨rfl, by rw [← HE.out]; exact HS.out⟩
        · rw [show (((k + 1 : Nat) : Int) - 1) = k by omega]
          obtain ⟨x, hx, cx, fx⟩ := hS.at_ (i := a) (by omega)
          obtain ⟨z, hz, cz, fz⟩ := hS.at_ (i := a + k) (by omega)
          obtain ⟨v', cz'⟩ := cell?_setCell_some (w := wr) (p := ⟨g, a, none⟩) (x := .int .u64 z) (q := ⟨g, a + k, none⟩) (v := .int .u64 z) cz
          have HS := Lib.hid hS
          have HZ := Lib.hid hs
          have HX := Lib.hid (And.intro hx hz)
          clear hE hS hs hx hz
          go_wp2
          go_region
          all_goals go_wp2_with fail
          refine (sift_any (((HS.out.swapped (i := a) (j := a + k) (by rw [HZ.out]; omega) (by rw [HZ.out]; omega) HX.out.1 HX.out.2).drew).row) (by rw [swp_size]; exact HZ.out.symm) (by rw [swp_size, HZ.out]; exact hsz) (lo := 0) (hi := k) (first := a) (by omega) (by rw [swp_size, HZ.out]; omega)).mono ?_
          rintro e w' ⟨rfl, h⟩
          have H := Lib.hid h
          clear h
          go_wp2
          go_roundw
          case rel => exact ⟨k, _, rfl, by omega, by rw [sift_size, swp_size]; exact HZ.out, ((HS.out.swapped (i := a) (j := a + k) (by rw [HZ.out]; omega) (by rw [HZ.out]; omega) HX.out.1 HX.out.2).drew).then_ H.out, (pop_go _ _ _).trans HE.out⟩
          case measure => simp [intOf] <;> omega
    · rw [show (((k + 1 : Nat) : Int) - 1) = k by omega]
      go_wp2_with fail
      refine (sift_any HS.out.row HZ.out.symm (by rw [HZ.out]; exact hsz) (lo := k) (hi := L) (first := a) (by omega) (by rw [HZ.out]; exact haL)).mono ?_
      rintro e w' ⟨rfl, h⟩
      have H := Lib.hid h
      clear h
      go_wp2
      go_roundw
      case rel => exact ⟨k, _, rfl, by omega, by rw [sift_size]; exact HZ.out, HS.out.then_ H.out, (build_go _ _ _ _).trans HE.out⟩
      case measure => simp [intOf] <;> omega
end Go.Proofs.Ytagdolkfefbohaa
