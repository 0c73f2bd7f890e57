/- 'PoolOne': the walk. -/
import Derived.Test.YtagdolkfefbohaaOne15
import Derived.Deep.CutRange
import Derived.IntWalk
namespace Go.Proofs.Ytagdolkfefbohaa
open Go.RowKit Stv

set_option maxHeartbeats 4000000 in
set_option maxRecDepth 100000 in
theorem one_any {w : World} {v : Value} {l : List StepV} (h : ScriptAt w v l) (hl : l.length ≤ 9223372036854775807) (hsz : ∀ x ∈ l, x.who.size ≤ maxLen ∧ x.to.size ≤ maxLen) (most : Int) (hm0 : 0 ≤ most) (hm1 : most ≤ 255) :
    Calls Try.prog 5 #[.int .u8 most, v] w fun e w' => e = .returned (.bool true) ∧ Grew w w' := by
  have HH : Hid (∀ w', Grew w w' → Calls Try.prog 6 #[v] w (HeavyPost w l.length)) := Lib.hid fun _ _ => heavy_any h hl
  obtain ⟨a, cap, rfl, hf⟩ := h.form
  have HF := Lib.hid hf
  have HSz := Lib.hid hsz
  have hmm := @run_makeMap Try.prog
  clear h hf hsz
  go_enter Try.func5, Try.ntmps5
  go_wp2_with fail
  refine (HH.out w (Off.refl _ _)).mono ?_
  rintro e wa ⟨hv, rfl, hle, hga⟩
  have HGa := Lib.hid hga
  clear hga
  cases hv with
  | true =>
    clear hle
    go_wp2_with fail
    refine (works_any _).mono ?_
    rintro e wb ⟨rfl, hgb⟩
    have HGb := Lib.hid hgb
    clear hgb
    go_wp2_with fail
    go_ret
    exact ⟨rfl, HGa.out.trans HGb.out⟩
  | false =>
    have hle2 : l.length ≤ 200 := hle rfl
    clear hle
    go_wp2_with fail
    generalize hn : most % 40 + 1 = n
    have hn1 : 1 ≤ n := by omega
    have hn2 : n ≤ 40 := by omega
    clear hn
    refine (news (n := n) hn1 (by omega) wa).mono ?_
    rintro e wb ⟨rfl, hp, hgb⟩
    have HO0 : Hid (OneAt w (wb.alloc (.map #[] 0)) (wb.heap.size + 1) (wa.heap.size + 1) wb.heap.size n ⟨0, []⟩ []) := Lib.hid (by
      have h1 := HGa.out.size
      have h2 := hgb.size
      refine ⟨_, hp.alloc _, fun k hk => ?_, by omega, MapIs.made K9 wb, (HGa.out.trans hgb).alloc _⟩
      obtain ⟨_, _, _, _, _, hlt⟩ := hp
      have := hlt k hk
      rcases hk with rfl | rfl <;> omega)
    obtain ⟨P, hP⟩ : ∃ P, wa.heap.size + 1 = P := ⟨_, rfl⟩
    rw [hP] at HO0 ⊢
    clear hp hgb hP
    go_wp2_with fail
    generalize wb.heap.size = bW at *
    generalize wb.alloc (.map #[] 0) = wc at *
    go_loopw [8, 10] (fun lst i wr => ∃ (k : Nat) (s : PS) (W : List ByteArray) (z : Int), k ≤ l.length ∧ i = .int .i64 k ∧ lst = .int .u64 z ∧ z ≤ s.last ∧ OneAt w wr wr.heap.size P bW n s W ∧ s.Fit n ∧ Owned s W ∧ s.last ≤ k) (fun _ i _ => l.length - (intOf i).toNat)
    case atStart => exact ⟨0, ⟨0, []⟩, [], 0, Nat.zero_le _, rfl, rfl, by simp, HO0.out.now, fit0 (by omega), (fun x hx => nomatch hx), by simp⟩
    case round =>
      obtain ⟨k, s, W, z, hk, rfl, rfl, hz, hO, hfit, hown, hlast⟩ := hrel
      have HO := Lib.hid hO
      have HFit := Lib.hid hfit
      have HOwn := Lib.hid hown
      clear hO hfit hown HO0
      by_cases hlt : k < l.length
      · obtain ⟨b, o, rfl, hb, hok, e0, e1, e2, e3, e4, e5⟩ := HF.out k hlt
        have g : ∀ {q : Addr} {u : Value}, w.cell? q = some u → wr.cell? q = some u := fun {q u} h => by rw [HO.out.base.cell (World.block_lt_of_cell? _ _ h) fun h => h]; exact h
        replace e0 := g e0
        replace e1 := g e1
        replace e2 := g e2
        replace e3 := g e3
        replace e4 := g e4
        replace e5 := g e5
        have HK := Lib.hid hok
        have HSx := Lib.hid (HSz.out _ (List.getElem_mem hlt))
        clear g hok HH
        generalize l[k] = x at *
        obtain ⟨xl, xn, xc, hxl⟩ : ∃ a b c, x.l = .slice a b c := by
          rcases HK.out.src with ⟨e, _⟩ | ⟨a, c, e, _⟩
          · exact ⟨_, _, _, e⟩
          · exact ⟨_, _, _, e⟩
        rw [hxl] at e5
        have HXL := Lib.hid hxl
        clear hxl
        have HB0 : Hid (wr.heap.size ≠ bW) := Lib.hid (by have := HO.out.map.lt; omega)
        go_wp2_with (first | (at_mapUpdate;  refine wpList_mput K9 _ rfl _ _ _ 51 rfl 3 Try.underlying51 bW _ x.who (.int .i64 1) rfl rfl rfl (HO.out.grew (grew_alloc _ _)).map HSx.out.1 ?_; intro w2 hm2 ht2; have HO2 := Lib.hid ((HO.out.grew (grew_alloc wr _)).put hm2 ht2); have HX2 := Lib.hid ((Off.refl (fun q => q = bW) (wr.alloc _)).turned ht2 (.inl rfl)); clear hm2 ht2; have f2 : w2.cell? ⟨wr.heap.size, 2, none⟩ = some (.string x.to) := (by rw [HX2.out.cell (p := ⟨wr.heap.size, 2, none⟩) (by simp) HB0.out]; simp)) | (at_mapUpdate; refine wpList_mput K9 _ rfl _ _ _ 51 rfl 3 Try.underlying51 bW _ x.to (.int .i64 1) rfl rfl rfl HO2.out.map HSx.out.2 ?_; intro w3 hm3 ht3; have HO3 := Lib.hid (HO2.out.put hm3 ht3); have HX3 := Lib.hid (HX2.out.turned ht3 (.inl rfl)); clear hm3 ht3 f2; have f0 : w3.cell? ⟨wr.heap.size, 0, none⟩ = some (.int .i64 x.doo) := (by rw [HX3.out.cell (p := ⟨wr.heap.size, 0, none⟩) (by simp) HB0.out]; simp); have f1 : w3.cell? ⟨wr.heap.size, 1, none⟩ = some (.string x.who) := (by rw [HX3.out.cell (p := ⟨wr.heap.size, 1, none⟩) (by simp) HB0.out]; simp); have f2 : w3.cell? ⟨wr.heap.size, 2, none⟩ = some (.string x.to) := (by rw [HX3.out.cell (p := ⟨wr.heap.size, 2, none⟩) (by simp) HB0.out]; simp); have f3 : w3.cell? ⟨wr.heap.size, 3, none⟩ = some (.string x.s) := (by rw [HX3.out.cell (p := ⟨wr.heap.size, 3, none⟩) (by simp) HB0.out]; simp); have f4 : w3.cell? ⟨wr.heap.size, 4, none⟩ = some (.int .u64 x.n) := (by rw [HX3.out.cell (p := ⟨wr.heap.size, 4, none⟩) (by simp) HB0.out]; simp); have f5 : w3.cell? ⟨wr.heap.size, 5, none⟩ = some (.slice xl xn xc) := (by rw [HX3.out.cell (p := ⟨wr.heap.size, 5, none⟩) (by simp) HB0.out]; simp)))
        refine (one_does HO3.out HFit.out (by omega) HK.out (by unfold StepV.val; rw [HXL.out])).mono ?_
        rintro e wd ⟨rfl, hp, ho4⟩
        have HO4 := Lib.hid hp
        have hf0 : wd.cell? ⟨wr.heap.size, 0, none⟩ = some (.int .i64 x.doo) := by rw [ho4.cell (World.block_lt_of_cell? _ _ f0) (Nat.lt_irrefl _)]; exact f0
        clear hp ho4 f0 f1 f2 f3 f4 f5 e0 e1 e2 e3 e4 e5
        have hst := Fit.step HFit.out x
        have how := Owned.step (most := n) (x := x) ((HOwn.out.mono (wput_sub W x.who)).mono (wput_sub (wput W x.who) x.to)) (wput_sub _ _ _ (wput_mem W x.who)) (wput_mem _ _)
        have htl := take_last (n := n) (s := s) (x := x)
        obtain ⟨W2, hW2⟩ : ∃ W2, wput (wput W x.who) x.to = W2 := ⟨_, rfl⟩
        rw [hW2] at HO4 how
        generalize psStep n s x = R at *
        obtain ⟨⟨ra, rb⟩, s2⟩ := R
        have HFit2 := Lib.hid hst.1
        have HOwn2 := Lib.hid how
        have hl2 : s2.last ≤ k + 1 := by have := hst.2.1; simp only at this; omega
        have hl3 : s.last ≤ s2.last := by have := hst.2.2; simpa using this
        have HTL := Lib.hid htl
        simp only at HO4 HFit2 HOwn2
        clear hst how htl HO HO2 HO3 HX2 HX3 hW2
        go_upto_region 16 with fail
        go_cut [68] from 40 to 165 (fun t wx => (∃ B : Bool, t = .bool B ∧ (B = true → x.doo = 0 ∧ rb = 0)) ∧ wx = wd)
        case first =>
          by_cases hd : x.doo = 0
          · have hd2 : (x.doo == 0) = true := beq_iff_eq.2 hd
            by_cases hc : rb = 0
            · have hc2 : (rb == 0) = true := beq_iff_eq.2 hc
              have HDC := Lib.hid (And.intro hd hc)
              clear hd hc
              go_wp2_with fail
              go_meet
              exact ⟨⟨true, rfl, fun _ => HDC.out⟩, rfl⟩
            · have hc2 : (rb == 0) = false := beq_eq_false_iff_ne.2 hc
              clear hd hc
              go_wp2_with fail
              go_meet
              exact ⟨⟨false, rfl, fun h => by cases h⟩, rfl⟩
          · have hd2 : (x.doo == 0) = false := beq_eq_false_iff_ne.2 hd
            clear hd
            go_wp2_with fail
            go_meet
            exact ⟨⟨false, rfl, fun h => by cases h⟩, rfl⟩
        case rest =>
          obtain ⟨⟨B, rfl, hB⟩, rfl⟩ := hcut
          have HB := Lib.hid hB
          clear hB
          go_upto_if 68 with fail
          go_cut [8] from 40 to 165 (fun lst wx => ∃ z2 : Int, lst = .int .u64 z2 ∧ z2 ≤ s2.last ∧ wx = wc)
          case first =>
            cases B with
            | true =>
              obtain ⟨hd, hc⟩ := HB.out rfl
              obtain ⟨h1, h2⟩ := HTL.out hd hc
              have h3 : ¬ ra ≤ z := by omega
              have h4 : ra ≤ s2.last := by omega
              clear h1 h2 hd hc HB
              go_wp2_with fail
              go_meet
              exact ⟨ra, rfl, h4, rfl⟩
            | false =>
              clear HB
              go_wp2_with fail
              go_meet
              exact ⟨z, rfl, by omega, rfl⟩
          case rest =>
            obtain ⟨z2, rfl, hz2, rfl⟩ := hcut
            have HOm := Lib.hid (HO4.out.grew (grew_alloc _ (.map #[] 0)))
            go_wp2_with (at_range; refine wpList_mrange K9 _ rfl _ 51 rfl 3 Try.underlying51 bW _ rfl HOm.out.map ?_; intro xo hrg0; have HRg := Lib.hid hrg0; clear hrg0)
            obtain ⟨rI, hrI⟩ : ∃ r, (wc.alloc (.map #[] 0)).heap.size = r := ⟨_, rfl⟩
            have hrI2 : rI = wc.heap.size + 1 := by rw [← hrI]; simp
            have HSeen : Hid (MapIs K30 ((wc.alloc (.map #[] 0)).alloc xo) wc.heap.size []) := Lib.hid ((MapIs.made K30 wc).of_block (Below.heap_alloc _ _ _ (by simp)))
            have HNE : Hid (wc.heap.size ≠ bW ∧ wc.heap.size ≠ rI ∧ bW < wc.heap.size) := Lib.hid (by have := HO4.out.map.lt; omega)
            have HGm : Hid (Grew wc ((wc.alloc (.map #[] 0)).alloc xo)) := Lib.hid (((Off.refl _ _).alloc _).alloc _)
            have hsm : rI < ((wc.alloc (.map #[] 0)).alloc xo).heap.size := by simp; omega
            have HrI := Lib.hid hrI2
            rw [hrI] at HRg ⊢
            clear hrI hrI2
            obtain ⟨bS, hbS⟩ : ∃ b, wc.heap.size = b := ⟨_, rfl⟩
            have HbS := Lib.hid hbS
            rw [hbS] at HSeen HNE HrI ⊢
            clear hbS
            generalize ((wc.alloc (.map #[] 0)).alloc xo) = wm at *
            go_frame
            go_loopw [14] (fun hv wx => ∃ done : List ByteArray, hv = .int .i64 ((helds s2.V done).length : Nat) ∧ Grew wc wx ∧ Ranging K9 wx bW rI (onesS W2) done ∧ MapIs K30 wx bS (ones (helds s2.V done))) (fun _ wx => (onesS W2).length - seenAt wx rI)
            case atStart => exact ⟨[], rfl, HGm.out, HRg.out, HSeen.out⟩
            case round =>
              obtain ⟨done, rfl, hg5, hrg, hsn⟩ := hrel
              have HG5 := Lib.hid hg5
              have HRg5 := Lib.hid hrg
              have HS5 := Lib.hid hsn
              have hle5 := helds_le HFit2.out.uniq hrg.nodup
              have hle6 := HFit2.out.len
              clear hg5 hrg hsn HSeen HRg HGm
              go_wp2_with (at_next; refine wpList_mnext K9 _ rfl _ rfl bW rI (onesS W2) done rfl HRg5.out ?_ ?_)
              · intro hall
                have HAll := Lib.hid hall
                clear hall
                have heq := helds_all HFit2.out.uniq HRg5.out.nodup fun x hx => onesS_all (fun p hp => HAll.out p.1 p.2 hp) _ (HOwn2.out x hx).2
                rw [heq] at hle5
                obtain ⟨m, hm⟩ : ∃ m, s2.V.length = m := ⟨_, rfl⟩
                have HFree : Hid (∀ wx, Grew wr wx → Calls Try.prog 11 #[.pointer (some ⟨P, 0, none⟩)] wx fun e w' => e = .returned (.int .i64 (n - m)) ∧ Grew wr w') := Lib.hid fun wx hg => by
                  rw [← hm]
                  exact (one_freeg ((HO4.out.grew HG5.out).grew hg) HFit2.out (by omega)).mono fun e w' ⟨h1, h2⟩ => ⟨h1, hg.trans h2⟩
                rw [heq, hm]
                rw [hm] at hle6
                have f1 : IntKind.i64.wrap ((m : Int) + (n - m)) = n := by rw [IntWalk.i64_in _ (by omega)]; omega
                have f2 : (n != n) = false := by simp
                have f3 : ¬ (n - m < 0) := by omega
                clear hm heq
                go_wp2_with fail
                refine (HFree.out _ (Off.refl _ _)).mono ?_
                rintro e w6 ⟨rfl, hg6⟩
                have HG6 := Lib.hid hg6
                clear hg6
                go_wp2_with fail
                refine (HFree.out _ HG6.out).mono ?_
                rintro e w7 ⟨rfl, hg7⟩
                have HG7 := Lib.hid hg7
                clear hg7
                go_wp2_with fail
                exact ⟨⟨k + 1, s2, W2, z2, by omega, by go_num, rfl, hz2, ((HO4.out.grew HG5.out).grew HG7.out).now, HFit2.out, HOwn2.out, by omega⟩, by simp [intOf]; omega⟩
              · intro h v w6 hkl hkd hrg6 ho6 hs6 hen
                have hke : K9.enc h = Value.string h := rfl
                rw [hke] at hen ⊢
                clear hke
                have HMore := Lib.hid (And.intro hkl (And.intro hkd hrg6))
                have HOff6 := Lib.hid ho6
                have HG6 : Hid (Grew wc w6) := Lib.hid (HG5.out.next ho6 fun i hi => .inr (by rw [hi, HrI.out, HbS.out]; omega))
                have HS6 : Hid (MapIs K30 w6 bS (ones (helds s2.V done))) := Lib.hid (ho6.map HS5.out HNE.out.2.1)
                have HIn := Lib.hid fun j hj => new_at (j := j) HFit2.out.uniq hkd hj
                clear hkl hkd hrg6 ho6 hs6
                go_wp2_with fail
                clear hen
                refine (one_held (HO4.out.grew HG6.out) HFit2.out (by omega) h).mono ?_
                rintro e w7 ⟨lv, rfl, hg7, hN7⟩
                obtain ⟨la, lcap, rfl, hc7⟩ := nums_form hN7
                have HG7 := Lib.hid hg7
                have HC7 := Lib.hid hc7
                have hlen7 := vheld_len s2.V h
                obtain ⟨ids, hids⟩ : ∃ ids, vheld s2.V h = ids := ⟨_, rfl⟩
                rw [hids] at HC7 hlen7 ⊢
                have HIds := Lib.hid hids
                clear hg7 hN7 hc7 hids
                go_wp2_with fail
                have hsum : ((helds s2.V done).length : Int) + ids.length = ((helds s2.V (done ++ [h])).length : Nat) := by rw [helds_snoc, List.length_append, HIds.out]; simp
                rw [hsum]
                have HS7 : Hid (MapIs K30 w7 bS (ones (helds s2.V done))) := Lib.hid (HG7.out.map HS6.out fun h => h)
                have hbS7 : bS < w6.heap.size := HS6.out.lt
                clear hsum
                go_loopw [18] (fun jv wx => ∃ j : Nat, j ≤ ids.length ∧ jv = .int .i64 j ∧ Off (fun q => q = bS) w7 wx ∧ MapIs K30 wx bS (ones (helds s2.V done ++ ids.take j))) (fun jv _ => ids.length - (intOf jv).toNat)
                case atStart => exact ⟨0, Nat.zero_le _, rfl, Off.refl _ _, by simpa using HS7.out⟩
                case round =>
                  obtain ⟨j, hj, rfl, ho8, hs8⟩ := hrel
                  have HO8 := Lib.hid ho8
                  have HS8 := Lib.hid hs8
                  clear ho8 hs8
                  by_cases hjl : j < ids.length
                  · obtain ⟨g, rfl, hg6s, hg7s, hc⟩ := HC7.out j hjl
                    have hgb : g ≠ bS := by omega
                    have hcell : wr.cell? ⟨g, j, none⟩ = some (.int .u64 ids[j]) := by rw [HO8.out.cell (p := ⟨g, j, none⟩) hg7s hgb]; exact hc
                    obtain ⟨bu, hbu, hbh, hbi⟩ : ∃ b, vget s2.V ids[j] = some b ∧ b.holder = h ∧ b.id = ids[j] := by
                      have := vheld_at (V := s2.V) (h := h) (j := j) (by rw [HIds.out]; exact hjl)
                      simpa only [HIds.out] using this
                    have hno : ids[j] ∉ helds s2.V done ++ ids.take j := by
                      have := HIn.out j (by rw [HIds.out]; exact hjl)
                      simpa only [HIds.out] using this
                    have htk := List.take_succ_eq_append_getElem hjl
                    have HPrev : Hid (∀ i (hi : i < j), wr.cell? ⟨g, i, none⟩ = some (.int .u64 (ids[i]'(by omega))) ∧ ids[i]'(by omega) < ids[j]) := Lib.hid fun i hi => by
                      obtain ⟨g', hgg, _, _, hc'⟩ := HC7.out i (by omega)
                      cases hgg
                      refine ⟨by rw [HO8.out.cell (p := ⟨g, i, none⟩) hg7s hgb]; exact hc', ?_⟩
                      have := asc_at (V := s2.V) HFit2.out.uniq (h := h) hi (by rw [HIds.out]; exact hjl)
                      simpa only [HIds.out] using this
                    have HNo := Lib.hid hno
                    have HTk := Lib.hid htk
                    obtain ⟨id, hid⟩ : ∃ id, ids[j] = id := ⟨_, rfl⟩
                    rw [hid] at hcell hbu hbi HNo HTk HPrev
                    have HBu := Lib.hid (And.intro hbu (And.intro hbh hbi))
                    clear hc hbu hbh hbi hno htk hid
                    have HG8 : Hid (Grew wc wr) := Lib.hid ((HG6.out.trans HG7.out).next HO8.out fun i hi => .inr (by rw [hi, ← HbS.out]; exact Nat.le_refl _))
                    obtain ⟨tx, htx⟩ : ∃ t, bu.text = t := ⟨_, rfl⟩
                    have HGet : Hid (Calls Try.prog 12 #[.pointer (some ⟨P, 0, none⟩), .int .u64 id] wr fun e w' => e = .returned (.tuple #[.agg #[.int .u64 id, .string h, .string tx], .bool true]) ∧ Grew wr w') := by
                      have := one_get (HO4.out.grew HG8.out) HBu.out.1
                      rw [HBu.out.2.1, HBu.out.2.2, htx] at this
                      exact Lib.hid this
                    have hwf : (Lit.int .u64 id).wf = true := by
                      have := one_wf HO4.out bu (vget_mem HBu.out.1).1
                      rwa [HBu.out.2.2] at this
                    have HWf := Lib.hid hwf
                    clear htx hwf
                    go_wp2_with fail
                    refine HGet.out.mono ?_
                    rintro e w9 ⟨rfl, hg9⟩
                    have HG9 := Lib.hid hg9
                    have HS9 : Hid (MapIs K30 (w9.alloc (.cells #[.int .u64 id, .string h, .string tx] 42)) bS (ones (helds s2.V done ++ ids.take j))) := Lib.hid ((hg9.alloc _).map HS8.out fun h => h)
                    have c9 : (w9.alloc (.cells #[.int .u64 id, .string h, .string tx] 42)).cell? ⟨g, j, none⟩ = some (.int .u64 id) := by
                      rw [(hg9.alloc _).cell (World.block_lt_of_cell? _ _ hcell) fun h => h]; exact hcell
                    have hlk := HS9.out.look_none (t := 52) (e := 3) Try.underlying52 (k := id) HWf.out (by rw [ones_get, if_neg HNo.out]) (zero3 _) false
                    change (Instr.lookup 52 (.map (some bS)) (.int .u64 id) false).run Try.prog _ = .ok (.int .i64 0) _ at hlk
                    have HCj := Lib.hid hcell
                    clear hg9 hcell
                    go_wp2_with (at_mapUpdate; refine wpList_mput K30 _ rfl _ _ _ 52 rfl 3 Try.underlying52 bS _ id (.int .i64 1) rfl rfl rfl HS9.out HWf.out ?_; intro w10 hm10 ht10; have HM10 := Lib.hid hm10; have HT10 := Lib.hid ht10; clear hm10 ht10 hlk c9)
                    have HO10 : Hid (Off (fun q => q = bS) (w9.alloc (.cells #[.int .u64 id, .string h, .string tx] 42)) w10) := Lib.hid ((Off.refl _ _).turned HT10.out (.inl rfl))
                    have hbS9 : bS < w9.heap.size := by have := HG9.out.size; have := HS8.out.lt; omega
                    have d0 : w10.cell? ⟨w9.heap.size, 0, none⟩ = some (.int .u64 id) := by
                      rw [HO10.out.cell (p := ⟨w9.heap.size, 0, none⟩) (by simp) (fun e => by simp at e; omega)]; simp
                    have d1 : w10.cell? ⟨w9.heap.size, 1, none⟩ = some (.string h) := by
                      rw [HO10.out.cell (p := ⟨w9.heap.size, 1, none⟩) (by simp) (fun e => by simp at e; omega)]; simp
                    have HCell : Hid (∀ p u, wr.cell? p = some u → p.block ≠ bS → w10.cell? p = some u) := Lib.hid fun p u hp hb => by
                      have h1 := World.block_lt_of_cell? _ _ hp
                      have h2 := HG9.out.size
                      rw [HO10.out.cell (by simp; omega) hb, (HG9.out.alloc _).cell h1 fun h => h]; exact hp
                    have d2 : w10.cell? ⟨g, j, none⟩ = some (.int .u64 id) := HCell.out _ _ HCj.out hgb
                    have hlk : ∀ q, (Instr.lookup 52 (.map (some bS)) (.int .u64 id) false).run Try.prog (w10.drewN q) = .ok (.int .i64 1) (w10.drewN q) := fun q =>
                      (HM10.out.of_block (w' := w10.drewN q) rfl).look_some (t := 52) (e := 3) Try.underlying52 (k := id) HWf.out (v := .int .i64 1) (by rw [mget_mput, if_pos rfl]) false
                    have s1 := str_yes (a := h) rfl
                    have s2' : h.toList.isEmpty = false := str_emp_no (by have := (HOwn2.out bu (vget_mem HBu.out.1).1).1; rwa [HBu.out.2.1] at this)
                    go_frame
                    have HFin : Hid (∀ q, (∃ j' : Nat, j' ≤ ids.length ∧ Value.int .i64 ((j : Int) + 1) = .int .i64 j' ∧ Off (fun q => q = bS) w7 (w10.drewN q) ∧ MapIs K30 (w10.drewN q) bS (ones (helds s2.V done ++ ids.take j')))) := Lib.hid fun q => by
                      refine ⟨j + 1, hjl, by go_num, (((HO8.out.next (HG9.out.alloc _) fun _ h => h.elim).trans HO10.out).drewN q), ?_⟩
                      have := HM10.out
                      rw [ones_put HNo.out, List.append_assoc, ← HTk.out] at this
                      exact this.of_block rfl
                    by_cases hj0 : j = 0
                    · subst hj0
                      go_quiet (fail)
                      go_wp2_with fail
                      exact ⟨HFin.out _, by simp [intOf]; omega⟩
                    · obtain ⟨dp, hlt9⟩ := HPrev.out (j - 1) (by omega)
                      have d3 := HCell.out _ _ dp hgb
                      obtain ⟨y, hy⟩ : ∃ y, ids[j - 1]'(by omega) = y := ⟨_, rfl⟩
                      rw [hy] at d3 hlt9
                      have e1 : IntKind.i64.wrap ((j : Int) - 1) = (j : Int) - 1 := IntWalk.i64_in _ (by omega)
                      have e2 : ((j : Int) - 1).toNat = j - 1 := by omega
                      have e3 : 0 ≤ (j : Int) - 1 := by omega
                      have e4 : decide (id ≤ y) = false := by simp; omega
                      have e5 : decide (0 < j) = true := by simp; omega
                      have e8 : 0 < j := by omega
                      have e6 : (j : Int) - 1 < ids.length := by omega
                      have e7 : ¬ id ≤ y := by omega
                      clear hy dp hlt9
                      go_quiet (fail)
                      go_wp2_with fail
                      exact ⟨HFin.out _, by simp [intOf]; omega⟩
                  · obtain rfl : j = ids.length := by omega
                    go_wp2_with fail
                    go_roundw
                    case rel =>
                      have h1 := HS8.out
                      rw [List.take_length, ← HIds.out, ← helds_snoc] at h1
                      exact ⟨done ++ [h], rfl, (HG6.out.trans HG7.out).next HO8.out fun i hi => .inr (by rw [hi, ← HbS.out]; exact Nat.le_refl _), (HMore.out.2.2.off HG7.out (fun h => h) fun h => h).off HO8.out (fun e => HNE.out.1 e.symm) (fun e => HNE.out.2.1 e.symm), h1⟩
                    case measure =>
                      have h1 := (HMore.out.2.2.off HG7.out (fun h => h) fun h => h).off HO8.out (fun e => HNE.out.1 e.symm) (fun e => HNE.out.2.1 e.symm)
                      have h2 := HMore.out.2.2.len
                      rw [h1.seen, HRg5.out.seen]
                      simp only [List.length_append, List.length_singleton] at h2 ⊢
                      omega
      · go_wp2_with fail
        refine (works_any _).mono ?_
        rintro e wd ⟨rfl, hgb⟩
        have HGb2 := Lib.hid hgb
        clear hgb
        go_wp2_with fail
        go_ret
        exact ⟨rfl, HO.out.base.trans HGb2.out⟩
end Go.Proofs.Ytagdolkfefbohaa
