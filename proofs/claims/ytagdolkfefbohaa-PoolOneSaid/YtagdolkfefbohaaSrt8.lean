/- pdqsort, at whole numbers: a sorted row, of the same numbers. -/
import Derived.Test.YtagdolkfefbohaaSrt2
import Derived.Test.YtagdolkfefbohaaSrt4
import Derived.Test.YtagdolkfefbohaaSrt6
import Derived.Test.YtagdolkfefbohaaSrt7
import Derived.Sort.LotD3
import Derived.BigQuiet
import Derived.Deep.CutRange
namespace Go.Proofs.Ytagdolkfefbohaa
open Go.RowKit Stv
open Go.Sort (swp PermIn SortedIn Below SWO)

theorem swoI : SWO ltI where
  irrefl x := by simp [ltI]
  trans x y z := by simp [ltI]; omega
  ntrans x y z := by simp [ltI]; omega

/-- what a sort of the places a ≤ i < b leaves -/
def Sorts (w : World) (g : Nat) (R : List Value) (d : Array Int) (a b : Nat) (e : Ending) (w' : World) : Prop :=
  e = .returned (.tuple #[]) ∧ ∃ d', PermIn a b d d' ∧ SortedIn ltI a b d' ∧ SB w g R d' w'

def PdqSt (m N cap g : Nat) (R : List Value) : Prop := ∀ (w : World) (d : Array Int) (a b lim : Nat), RowB w g d R → N = d.size → d.size ≤ 65535 → a ≤ b → b ≤ d.size → lim ≤ 1000000 → Below ltI a b d → b - a < m →
  Calls Try.prog 30 #[.slice (some ⟨g, 0, none⟩) N cap, .int .i64 a, .int .i64 b, .int .i64 lim] w (Sorts w g R d a b)

set_option maxHeartbeats 12800000 in
set_option maxRecDepth 100000 in
theorem pdq_all (N cap g : Nat) (R : List Value) (m : Nat) : PdqSt m N cap g R := by
  induction m with
  | zero => intro w d a b lim _ _ _ _ _ _ _ h; omega
  | succ m ih =>
    intro w d a b lim hR hN hsz hab hb hlim hB hm
    have IH := Lib.hid ih
    have HR := Lib.hid (SB.start hR)
    have HB := Lib.hid hB
    rw [← hN] at hb hsz
    have HN := Lib.hid hN
    clear ih hR hN hB
    go_enter Try.func30, Try.ntmps30
    go_wp2
    go_loopw [1, 2, 3, 8, 9] (fun va vb vl vw vp wr => ∃ (a1 b1 lim1 : Nat) (wb wp : Bool) (dk : Array Int), va = .int .i64 a1 ∧ vb = .int .i64 b1 ∧ vl = .int .i64 lim1 ∧ vw = .bool wb ∧ vp = .bool wp ∧ a1 ≤ b1 ∧ b1 ≤ N ∧ b1 - a1 ≤ b - a ∧ lim1 ≤ 1000000 ∧ 0 ≤ a1 ∧ dk.size = N ∧ Below ltI a1 b1 dk ∧ SB w g R dk wr ∧
      ∀ Rr, PermIn a1 b1 dk Rr → SortedIn ltI a1 b1 Rr → PermIn a b d Rr ∧ SortedIn ltI a b Rr) (fun va vb _ _ _ _ => (intOf vb).toNat - (intOf va).toNat)
    case atStart => exact ⟨a, b, lim, true, true, d, rfl, rfl, rfl, rfl, rfl, hab, hb, Nat.le_refl _, hlim, Nat.zero_le _, HN.out.symm, HB.out, HR.out, fun Rr h1 h2 => ⟨h1, h2⟩⟩
    case round =>
      obtain ⟨a1, b1, lim1, wb, wp, dk, rfl, rfl, rfl, rfl, rfl, hab1, hb1, hba1, hlim1, _, hs, hB1, hS, hK⟩ := hrel
      have HK := Lib.hid hK
      have HSc := Lib.hid hS
      have HBc := Lib.hid hB1
      have HZc := Lib.hid hs
      have HPc : Hid (PermIn a1 b1 dk dk) := Lib.hid (Sort.permIn_refl _ _ _)
      clear hK hS hB1 hs
      by_cases h12 : b1 - a1 ≤ 12
      · have h12z : (b1 : Int) - (a1 : Int) ≤ 12 := by omega
        go_wp2_with fail
        refine (ins_any HSc.out.row (n := N) (cap := cap) HZc.out.symm (by rw [HZc.out]; omega) (a := a1) (b := b1) (by omega) (by rw [HZc.out]; exact hb1)).mono ?_
        rintro e w3 ⟨rfl, h3⟩
        have hpi := Sort.insertionSort_holds swoI dk a1 b1 (by omega) (by rw [HZc.out]; exact hb1)
        have HS3 := Lib.hid (HSc.out.then_ h3)
        have HN3 := Lib.hid (HK.out _ hpi.1 hpi.2)
        clear h3 hpi
        go_wp2
        (try simp only [Exit.inBlock, Exit.then]); refine bodyPost_ret (results_none rfl _ _ _) rfl ?_
        exact ⟨rfl, _, HN3.out.1, HN3.out.2, HS3.out⟩
      · have h12z : ¬ ((b1 : Int) - (a1 : Int) ≤ 12) := by omega
        by_cases hl0 : lim1 = 0
        · subst hl0
          go_wp2_with fail
          refine (heap_any HSc.out.row (n := N) (cap := cap) HZc.out.symm (by rw [HZc.out]; omega) (a := a1) (b := b1) (by omega) (by rw [HZc.out]; exact hb1)).mono ?_
          rintro e w3 ⟨rfl, h3⟩
          have hpi := Sort.heapSort_holds swoI dk a1 b1 (by omega) (by rw [HZc.out]; exact hb1)
          have HS3 := Lib.hid (HSc.out.then_ h3)
          have HN3 := Lib.hid (HK.out _ hpi.1 hpi.2)
          clear h3 hpi
          go_wp2
          (try simp only [Exit.inBlock, Exit.then]); refine bodyPost_ret (results_none rfl _ _ _) rfl ?_
          exact ⟨rfl, _, HN3.out.1, HN3.out.2, HS3.out⟩
        · have hl0z : ¬ ((lim1 : Int) = 0) := by omega
          go_upto_if 35 with fail
          go_cut [3] from 19 to 133 (fun l wx => ∃ (lim2 : Nat) (dc : Array Int), l = .int .i64 lim2 ∧ lim2 ≤ 1000000 ∧ dc.size = N ∧ PermIn a1 b1 dk dc ∧ Below ltI a1 b1 dc ∧ SB w g R dc wx)
          case first =>
            rcases wb with _ | _
            · go_wp2_with fail
              refine (brk_any HSc.out.row (n := N) (cap := cap) HZc.out.symm (by rw [HZc.out]; omega) (a := a1) (b := b1) (by omega) (by rw [HZc.out]; exact hb1)).mono ?_
              rintro e w3 ⟨rfl, dc, hpi, h3⟩
              have HS3 := Lib.hid (HSc.out.then_ h3)
              have HP3 := Lib.hid hpi
              clear h3 hpi
              obtain ⟨lim2, hl2, hlim2⟩ : ∃ lim2 : Nat, (lim1 : Int) - 1 = lim2 ∧ lim2 ≤ 1000000 := ⟨lim1 - 1, by omega, by omega⟩
              have HL2 := Lib.hid hl2
              clear hl2
              go_wp2_with fail
              go_meet
              exact ⟨lim2, dc, congrArg (Value.int .i64) HL2.out, hlim2, HP3.out.1.trans HZc.out, HP3.out, Sort.Below.perm HBc.out (by rw [HZc.out]; exact hb1) HP3.out, HS3.out⟩
            · go_wp2_with fail
              go_meet
              exact ⟨lim1, dk, rfl, hlim1, HZc.out, HPc.out, HBc.out, HSc.out⟩
          case rest =>
            obtain ⟨lim2, dc, rfl, hlim2, hz, hp, hb, hs⟩ := hcut
            clear HPc HBc HSc HZc
            have HPc := Lib.hid hp
            have HBc := Lib.hid hb
            have HSc := Lib.hid hs
            have HZc := Lib.hid hz
            clear hp hb hs hz
            go_wp2_with fail
            refine (piv_any HSc.out.row (n := N) (cap := cap) HZc.out.symm (by rw [HZc.out]; omega) (a := a1) (b := b1) (by omega) (by rw [HZc.out]; exact hb1)).mono ?_
            rintro e w2 ⟨pv, h, rfl, hpv1, hpv2, hh0, hh2, hg⟩
            have HS2 : Hid (SB w g R dc w2) := Lib.hid ⟨HSc.out.row.grew hg, HSc.out.but.next hg fun _ h => h.elim⟩
            clear hg HSc
            go_upto_if 50 with fail
            have hq50 : True := trivial
            clear hq50
            go_cut [11, 12] from 19 to 133 (fun vp vh wx => ∃ (q : Nat) (z : Int) (d2 : Array Int), vp = Value.int .i64 q ∧ vh = Value.int .i64 z ∧ a1 ≤ q ∧ q < b1 ∧ d2.size = N ∧ PermIn a1 b1 dk d2 ∧ Below ltI a1 b1 d2 ∧ SB w g R d2 wx)
            case first =>
              by_cases h2 : h = 2
              · have h2z : (h == 2) = true := by simp [h2]
                go_wp2_with fail
                refine (rev_any HS2.out.row (n := N) (cap := cap) HZc.out.symm (by rw [HZc.out]; omega) (a := a1) (b := b1) (by omega) (by rw [HZc.out]; exact hb1) (by omega)).mono ?_
                rintro e w3 ⟨rfl, h3⟩
                have hpi := Sort.reverseRange_holds dc a1 b1 (by omega) (by rw [HZc.out]; exact hb1)
                have HS3 := Lib.hid (HS2.out.then_ h3)
                have HPI := Lib.hid hpi
                clear h3 hpi
                obtain ⟨pv2, hpv, hpv'⟩ : ∃ pv2 : Nat, (b1 : Int) - 1 - ((pv : Int) - (a1 : Int)) = pv2 ∧ pv2 + pv + 1 = b1 + a1 := ⟨b1 - 1 - (pv - a1), by omega, by omega⟩
                have HPV := Lib.hid hpv
                clear hpv
                go_wp2_with fail
                go_meet
                exact ⟨pv2, 1, _, congrArg (Value.int .i64) HPV.out, rfl, by omega, by omega, HPI.out.1.trans HZc.out, Sort.permIn_trans _ _ _ _ _ HPc.out HPI.out, Sort.Below.perm HBc.out (by rw [HZc.out]; exact hb1) HPI.out, HS3.out⟩
              · have h2z : (h == 2) = false := by simp [h2]
                go_wp2_with fail
                go_meet
                exact ⟨pv, h, dc, rfl, rfl, hpv1, hpv2, HZc.out, HPc.out, HBc.out, HS2.out⟩
            case rest =>
              clear hpv1 hpv2 hh0 hh2 HS2
              obtain ⟨pv, h, d2, rfl, rfl, hpv1, hpv2, hz, hp, hb, hs⟩ := hcut
              clear HPc HBc HZc
              have HPc := Lib.hid hp
              have HBc := Lib.hid hb
              have HSc := Lib.hid hs
              have HZc := Lib.hid hz
              clear hp hb hs hz
              go_upto_region 15 with fail
              have hq68 : True := trivial
              clear hq68
              go_cut [68] from 19 to 133 (fun vt wx => (∃ t : Bool, vt = Value.bool t) ∧ SB w g R d2 wx)
              case first =>
                rcases wb with _ | _
                · go_wp2_with fail
                  all_goals go_meet
                  all_goals exact ⟨⟨_, rfl⟩, HSc.out⟩
                · rcases wp with _ | _
                  · go_wp2_with fail
                    all_goals go_meet
                    all_goals exact ⟨⟨_, rfl⟩, HSc.out⟩
                  · go_wp2_with fail
                    all_goals go_meet
                    all_goals exact ⟨⟨_, rfl⟩, HSc.out⟩
              case rest =>
              obtain ⟨⟨t, rfl⟩, hs⟩ := hcut
              clear HSc
              have HSc := Lib.hid hs
              clear hs
              go_upto_if 68 with fail
              go_cut [] from 19 to 133 (fun wx => ∃ d2 : Array Int, d2.size = N ∧ PermIn a1 b1 dk d2 ∧ Below ltI a1 b1 d2 ∧ SB w g R d2 wx)
              case first =>
                rcases t with _ | _
                · go_wp2_with fail
                  go_meet
                  exact ⟨d2, HZc.out, HPc.out, HBc.out, HSc.out⟩
                · go_wp2_with fail
                  refine (pins_any HSc.out.row (n := N) (cap := cap) HZc.out.symm (by rw [HZc.out]; omega) (a := a1) (b := b1) (by omega) (by rw [HZc.out]; exact hb1)).mono ?_
                  rintro e w3 ⟨rfl, h3⟩
                  have hpi := Sort.partialInsertionSort_holds swoI d2 a1 b1 (by omega) (by rw [HZc.out]; exact hb1) HBc.out
                  obtain ⟨r, hr⟩ : ∃ r, r = Sort.partialInsertionSort ltI d2 a1 b1 := ⟨_, rfl⟩
                  rw [← hr] at h3 hpi ⊢
                  clear hr
                  obtain ⟨d3, ok⟩ := r
                  have HS3 := Lib.hid (HSc.out.then_ h3)
                  have HPI := Lib.hid hpi
                  have HP3 := Lib.hid (Sort.permIn_trans _ _ _ _ _ HPc.out hpi.1)
                  clear h3 hpi
                  rcases ok with _ | _
                  · go_wp2_with fail
                    go_meet
                    exact ⟨d3, HPI.out.1.1.trans HZc.out, HP3.out, Sort.Below.perm HBc.out (by rw [HZc.out]; exact hb1) HPI.out.1, HS3.out⟩
                  · go_wp2_with fail
                    (try simp only [Exit.inBlock, Exit.then]); refine bodyPost_ret (results_none rfl _ _ _) rfl ?_
                    exact ⟨rfl, d3, (HK.out d3 HP3.out (HPI.out.2 trivial)).1, (HK.out d3 HP3.out (HPI.out.2 trivial)).2, HS3.out⟩
              case rest =>
                clear HPc HBc HSc HZc
                obtain ⟨dc, hz, hp, hb, hs⟩ := hcut
                have HPc := Lib.hid hp
                have HBc := Lib.hid hb
                have HSc := Lib.hid hs
                have HZc := Lib.hid hz
                clear hp hb hs hz
                by_cases ha0 : 0 < a1
                · have ha0z : (0 : Int) < (a1 : Int) := by omega
                  obtain ⟨x, hx, cx, fx⟩ := HSc.out.at_ (i := a1 - 1) (by rw [HZc.out]; omega)
                  obtain ⟨y, hy, cy, fy⟩ := HSc.out.at_ (i := pv) (by rw [HZc.out]; omega)
                  have HX := Lib.hid (And.intro hx hy)
                  clear hx hy
                  by_cases hl : ltI x y = true
                  · go_wp2_with fail
                    go_big_quiet ((go_at_call 38; exact Calls.quiet_of_same (less_yes hl _)))
                    clear cx fx cy fy
                    go_wp2_with fail
                    obtain ⟨mid, ap, d4, hx⟩ : ∃ mid ap d4, Sort.partition ltI dc a1 b1 pv = (mid, ap, d4) := ⟨_, _, _, rfl⟩
                    have hrp := Sort.round_part swoI (Sort.partition_holds ltI) hpv1 hpv2 (by rw [HZc.out]; exact hb1) HBc.out hx
                    have hcp := part_any (HSc.out.drewN nq).row (n := N) (cap := cap) HZc.out.symm (by rw [HZc.out]; omega) hpv1 hpv2 (by rw [HZc.out]; exact hb1)
                    rw [hx] at hcp
                    obtain ⟨hm1, hm2, hs4, hBl, hBr, hLf, hRg⟩ := hrp
                    have HCP := Lib.hid hcp
                    have HLf := Lib.hid hLf
                    have HRg := Lib.hid hRg
                    have HBl := Lib.hid hBl
                    have HBr := Lib.hid hBr
                    have HZ4 := Lib.hid (hs4.trans HZc.out)
                    clear hcp hLf hRg hBl hBr hs4 hx
                    refine (HCP.out).mono ?_
                    rintro e w4 ⟨rfl, h4⟩
                    have HS4 := Lib.hid ((HSc.out.drewN nq).then_ h4)
                    clear h4 HCP
                    by_cases hlr : mid - a1 < b1 - mid
                    · have hlrz : (mid : Int) - (a1 : Int) < (b1 : Int) - (mid : Int) := by omega
                      go_wp2_with fail
                      refine (IH.out _ _ a1 mid lim2 HS4.out.row HZ4.out.symm (by rw [HZ4.out]; exact hsz) (by omega) (by rw [HZ4.out]; omega) (by omega) HBl.out (by omega)).mono ?_
                      rintro e w5 ⟨rfl, d5, hp5, hs5, h5⟩
                      have hz5 : d5.size = N := hp5.1.trans HZ4.out
                      have HN5 := Lib.hid (HLf.out d5 hp5 hs5)
                      have HS5 := Lib.hid (HS4.out.then_ h5)
                      have HZ5 := Lib.hid hz5
                      clear hp5 hs5 h5 hz5
                      go_wp2
                      go_roundw
                      case rel => exact ⟨mid + 1, b1, lim2, _, ap, d5, rfl, rfl, rfl, rfl, rfl, by omega, hb1, by omega, by omega, by omega, HZ5.out, HN5.out.1, HS5.out, fun Rr h1 h2 => HK.out Rr (Sort.permIn_trans _ _ _ _ _ HPc.out (HN5.out.2 Rr h1 h2).1) (HN5.out.2 Rr h1 h2).2⟩
                      case measure => simp [intOf]; omega
                    · have hlrz : ¬ ((mid : Int) - (a1 : Int) < (b1 : Int) - (mid : Int)) := by omega
                      go_wp2_with fail
                      refine (IH.out _ _ (mid + 1) b1 lim2 HS4.out.row HZ4.out.symm (by rw [HZ4.out]; exact hsz) (by omega) (by rw [HZ4.out]; omega) (by omega) HBr.out (by omega)).mono ?_
                      rintro e w5 ⟨rfl, d5, hp5, hs5, h5⟩
                      have hz5 : d5.size = N := hp5.1.trans HZ4.out
                      have HN5 := Lib.hid (HRg.out d5 hp5 hs5)
                      have HS5 := Lib.hid (HS4.out.then_ h5)
                      have HZ5 := Lib.hid hz5
                      clear hp5 hs5 h5 hz5
                      go_wp2
                      go_roundw
                      case rel => exact ⟨a1, mid, lim2, _, ap, d5, rfl, rfl, rfl, rfl, rfl, by omega, by omega, by omega, by omega, by omega, HZ5.out, HN5.out.1, HS5.out, fun Rr h1 h2 => HK.out Rr (Sort.permIn_trans _ _ _ _ _ HPc.out (HN5.out.2 Rr h1 h2).1) (HN5.out.2 Rr h1 h2).2⟩
                      case measure => simp [intOf]; omega
                  · have hl : ltI x y = false := by simpa using hl
                    go_wp2_with fail
                    go_big_quiet ((go_at_call 38; exact Calls.quiet_of_same (less_no hl _)))
                    clear cx fx cy fy
                    go_wp2_with fail
                    obtain ⟨mid, d4, hx⟩ : ∃ mid d4, Sort.partitionEqual ltI dc a1 b1 pv = (mid, d4) := ⟨_, _, rfl⟩
                    have hrp := Sort.round_eq swoI (Sort.partitionEqual_holds ltI) ha0 hpv1 hpv2 (by rw [HZc.out]; exact hb1) HBc.out (by rw [← HX.out.1, ← HX.out.2]; exact hl) hx
                    have hcp := peq_any (HSc.out.drewN nq).row (n := N) (cap := cap) HZc.out.symm (by rw [HZc.out]; omega) hpv1 hpv2 (by rw [HZc.out]; exact hb1)
                    rw [hx] at hcp
                    obtain ⟨hm1, hm2, hs4, hB4, hN4⟩ := hrp
                    have HCP := Lib.hid hcp
                    have HN4 := Lib.hid hN4
                    have HB4 := Lib.hid hB4
                    have HZ4 := Lib.hid (hs4.trans HZc.out)
                    clear hcp hN4 hB4 hs4 hx
                    refine (HCP.out).mono ?_
                    rintro e w4 ⟨rfl, h4⟩
                    have HS4 := Lib.hid ((HSc.out.drewN nq).then_ h4)
                    clear h4 HCP
                    go_wp2
                    go_roundw
                    case rel => exact ⟨mid, b1, lim2, _, _, d4, rfl, rfl, rfl, rfl, rfl, by omega, hb1, by omega, by omega, by omega, HZ4.out, HB4.out, HS4.out, fun Rr h1 h2 => HK.out Rr (Sort.permIn_trans _ _ _ _ _ HPc.out (HN4.out Rr h1 h2).1) (HN4.out Rr h1 h2).2⟩
                    case measure => simp [intOf]; omega
                · have ha0z : decide ((0 : Int) < (a1 : Int)) = false := decide_eq_false (by omega)
                  go_wp2_with fail
                  go_big_quiet (fail)
                  go_wp2_with fail
                  obtain ⟨mid, ap, d4, hx⟩ : ∃ mid ap d4, Sort.partition ltI dc a1 b1 pv = (mid, ap, d4) := ⟨_, _, _, rfl⟩
                  have hrp := Sort.round_part swoI (Sort.partition_holds ltI) hpv1 hpv2 (by rw [HZc.out]; exact hb1) HBc.out hx
                  have hcp := part_any (HSc.out.drewN nq).row (n := N) (cap := cap) HZc.out.symm (by rw [HZc.out]; omega) hpv1 hpv2 (by rw [HZc.out]; exact hb1)
                  rw [hx] at hcp
                  obtain ⟨hm1, hm2, hs4, hBl, hBr, hLf, hRg⟩ := hrp
                  have HCP := Lib.hid hcp
                  have HLf := Lib.hid hLf
                  have HRg := Lib.hid hRg
                  have HBl := Lib.hid hBl
                  have HBr := Lib.hid hBr
                  have HZ4 := Lib.hid (hs4.trans HZc.out)
                  clear hcp hLf hRg hBl hBr hs4 hx
                  refine (HCP.out).mono ?_
                  rintro e w4 ⟨rfl, h4⟩
                  have HS4 := Lib.hid ((HSc.out.drewN nq).then_ h4)
                  clear h4 HCP
                  by_cases hlr : mid - a1 < b1 - mid
                  · have hlrz : (mid : Int) - (a1 : Int) < (b1 : Int) - (mid : Int) := by omega
                    go_wp2_with fail
                    refine (IH.out _ _ a1 mid lim2 HS4.out.row HZ4.out.symm (by rw [HZ4.out]; exact hsz) (by omega) (by rw [HZ4.out]; omega) (by omega) HBl.out (by omega)).mono ?_
                    rintro e w5 ⟨rfl, d5, hp5, hs5, h5⟩
                    have hz5 : d5.size = N := hp5.1.trans HZ4.out
                    have HN5 := Lib.hid (HLf.out d5 hp5 hs5)
                    have HS5 := Lib.hid (HS4.out.then_ h5)
                    have HZ5 := Lib.hid hz5
                    clear hp5 hs5 h5 hz5
                    go_wp2
                    go_roundw
                    case rel => exact ⟨mid + 1, b1, lim2, _, ap, d5, rfl, rfl, rfl, rfl, rfl, by omega, hb1, by omega, by omega, by omega, HZ5.out, HN5.out.1, HS5.out, fun Rr h1 h2 => HK.out Rr (Sort.permIn_trans _ _ _ _ _ HPc.out (HN5.out.2 Rr h1 h2).1) (HN5.out.2 Rr h1 h2).2⟩
                    case measure => simp [intOf]; omega
                  · have hlrz : ¬ ((mid : Int) - (a1 : Int) < (b1 : Int) - (mid : Int)) := by omega
                    go_wp2_with fail
                    refine (IH.out _ _ (mid + 1) b1 lim2 HS4.out.row HZ4.out.symm (by rw [HZ4.out]; exact hsz) (by omega) (by rw [HZ4.out]; omega) (by omega) HBr.out (by omega)).mono ?_
                    rintro e w5 ⟨rfl, d5, hp5, hs5, h5⟩
                    have hz5 : d5.size = N := hp5.1.trans HZ4.out
                    have HN5 := Lib.hid (HRg.out d5 hp5 hs5)
                    have HS5 := Lib.hid (HS4.out.then_ h5)
                    have HZ5 := Lib.hid hz5
                    clear hp5 hs5 h5 hz5
                    go_wp2
                    go_roundw
                    case rel => exact ⟨a1, mid, lim2, _, ap, d5, rfl, rfl, rfl, rfl, rfl, by omega, by omega, by omega, by omega, by omega, HZ5.out, HN5.out.1, HS5.out, fun Rr h1 h2 => HK.out Rr (Sort.permIn_trans _ _ _ _ _ HPc.out (HN5.out.2 Rr h1 h2).1) (HN5.out.2 Rr h1 h2).2⟩
                    case measure => simp [intOf]; omega
end Go.Proofs.Ytagdolkfefbohaa
