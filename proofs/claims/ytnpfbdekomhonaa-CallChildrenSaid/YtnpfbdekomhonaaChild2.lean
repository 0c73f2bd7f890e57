/- 'CallChildren': the walk. -/
import Derived.Test.YtnpfbdekomhonaaChild1
import Derived.Deep.RegionHeld3
namespace Go.Proofs.Ytnpfbdekomhonaa
open Go.RowKit Stv

set_option maxRecDepth 100000 in
set_option maxHeartbeats 8000000 in
theorem children_any (w : World) (ip port most : Int) (hm0 : 0 ≤ most) (hm1 : most ≤ 255) :
    Calls Try.prog 3 #[.agg #[.int .u32 ip, .int .u16 port], .int .u8 most] w fun e w' => e = .returned (.bool true) ∧ Grew w w' := by
  have HNew : Hid (∀ n : Int, 1 ≤ n → n ≤ 64 → Calls Try.prog 7 #[.int .i64 n, .slice (some ⟨w.heap.size + 1, 0, none⟩) 1 1] ((w.alloc (.cells #[.int .u32 ip, .int .u16 port] 25)).alloc (.cells #[.int .u32 7] 22)) fun e w' => ∃ t, e = .returned (.tuple #[.pointer (some ⟨t, 0, none⟩), .int .i64 0]) ∧ TabIs (w.alloc (.cells #[.int .u32 ip, .int .u16 port] 25)) w' t ⟨n, 0, [7], [], [], []⟩) := by
    have hb := (MapKept.heap_alloc (w.alloc (.cells #[.int .u32 ip, .int .u16 port] 25)) (.cells #[.int .u32 7] 22)).1
    rw [World.size_alloc] at hb
    have hown : OwnRow ((w.alloc (.cells #[.int .u32 ip, .int .u16 port] 25)).alloc (.cells #[.int .u32 7] 22)) 22 1 (.slice (some ⟨w.heap.size + 1, 0, none⟩) 1 1) ([7] : List Int).length (([7] : List Int).map (Value.int .u32)) := own_lit (l := [7]) hb (by decide)
    exact Lib.hid fun n h1 h2 => tNew h1 h2 rfl hown (by decide) (by decide) (grew_alloc _ _)
  have HBox : Hid ((w.alloc (.cells #[.int .u32 ip, .int .u16 port] 25)).heap[w.heap.size]? = some (.cells #[.int .u32 ip, .int .u16 port] 25 (0, 0))) := Lib.hid (MapKept.heap_alloc w _).1
  have HG0 := Lib.hid (grew_alloc w (.cells #[.int .u32 ip, .int .u16 port] 25))
  have hw0 : w.heap.size < (w.alloc (.cells #[.int .u32 ip, .int .u16 port] 25)).heap.size := by simp
  have HW0 := Lib.hid hw0
  clear hw0
  go_enter Try.func3, Try.ntmps3
  go_wp2_with fail
  generalize hn : most % 64 + 1 = n
  have hn1 : 1 ≤ n := by omega
  have hn2 : n ≤ 64 := by omega
  clear hn
  refine (HNew.out n hn1 hn2).mono ?_
  rintro e w1 ⟨t, rfl, h⟩
  have H0 := Lib.hid h
  clear h HNew
  generalize (w.alloc (.cells #[.int .u32 ip, .int .u16 port] 25)) = wb at *
  have HC : Hid (∀ w', Grew wb w' → w'.cell? ⟨w.heap.size, 0, none⟩ = some (.int .u32 ip) ∧ w'.cell? ⟨w.heap.size, 1, none⟩ = some (.int .u16 port)) := Lib.hid fun w' hg => by
    have := (hg.block _ HW0.out fun h => h).trans HBox.out
    exact ⟨cell_of this 0, cell_of this 1⟩
  clear HBox
  go_wp2_with fail
  refine (Calls.mono (tSocket H0.out (by simp; omega) (by simp; omega) (by simp) (by simp) rfl (proto := 2) (.inr rfl)) (R' := fun e w' => e = .returned (.tuple #[.int .i64 0, .int .u64 1, .int .i64 0]) ∧ TabIs wb w' t (ch1 n)) fun e w' ⟨he, ht⟩ => ⟨he, ht⟩).mono ?_
  rintro e w2 ⟨rfl, h⟩
  obtain ⟨x0, x1⟩ := HC.out w2 h.base
  have H1 := Lib.hid h
  clear h
  go_wp2_with fail
  refine (pair_any _ _ _).mono ?_
  rintro e w3 ⟨rfl, hg⟩
  have H2 := Lib.hid (H1.out.grew hg)
  clear hg x0 x1
  go_wp2_with fail
  refine (Calls.mono (tBorn H2.out (by simp [ch1]) (by simp [ch1])) (R' := fun e w' => e = .returned (.int .u64 2) ∧ TabIs wb w' t (ch2 n)) fun e w' ⟨he, ht⟩ => ⟨he, ht⟩).mono ?_
  rintro e w4 ⟨rfl, h⟩
  have H3 := Lib.hid h
  clear h
  go_wp2_with fail
  refine (tAccept_err H3.out (fd := 0) (by decide) (f := ⟨1, 2, 1, false⟩) rfl rfl (d := desk0 2) rfl (id := 2) (by decide) 7 80 ip port (c := 3) (by rfl) (by decide)).mono ?_
  rintro e w5 ⟨rfl, h⟩
  have H4 := Lib.hid h
  clear h
  go_wp2_with fail
  refine (Calls.mono (tBind H4.out (by simp [ch2]) (fd := 0) (by decide) (f := ⟨1, 2, 1, false⟩) rfl rfl (d := desk0 2) rfl 0 80 (by rfl) (.inr rfl) (by decide)) (R' := fun e w' => e = .returned (.int .i64 0) ∧ TabIs wb w' t (ch3 n)) fun e w' ⟨he, ht⟩ => ⟨he, ht⟩).mono ?_
  rintro e w6 ⟨rfl, h⟩
  have H5 := Lib.hid h
  clear h
  go_wp2_with fail
  refine (Calls.mono (tListen H5.out (fd := 0) (by decide) (f := ⟨1, 2, 1, false⟩) rfl rfl (d := { desk0 2 with is := 1, b := b0 }) rfl) (R' := fun e w' => e = .returned (.int .i64 0) ∧ TabIs wb w' t (ch4 n)) fun e w' ⟨he, ht⟩ => ⟨he, ht⟩).mono ?_
  rintro e w7 ⟨rfl, h⟩
  have H6 := Lib.hid h
  clear h
  go_wp2_with fail
  go_loopw [13] (fun iv wr => ∃ (i : Nat) (s : TS), (i : Int) ≤ n + 2 ∧ iv = .int .i64 i ∧ TabIs wb wr t s ∧ ChSt n i s) (fun iv _ => (n + 2 - intOf iv).toNat)
  case atStart => exact ⟨0, ch4 n, by omega, rfl, H6.out, ch4_st hn1⟩
  case round =>
    obtain ⟨i, s, hi, rfl, hT, hs⟩ := hrel
    have HT := Lib.hid hT
    have HS := Lib.hid hs
    obtain ⟨x0, x1⟩ := HC.out wr hT.base
    clear hT hs
    by_cases hlt : (i : Int) < n + 2
    · have hl1 : 2 ≤ s.last := by have := HS.out.last; omega
      have hl2 : s.last ≤ 70 := by have := HS.out.last; omega
      go_wp2_with fail
      refine (tBorn HT.out (by omega) (by omega)).mono ?_
      rintro e w8 ⟨rfl, h⟩
      obtain ⟨y0, y1⟩ := HC.out w8 h.base
      have H8 := Lib.hid h
      clear h x0 x1
      go_wp2_with fail
      refine (pair_any _ _ _).mono ?_
      rintro e w9 ⟨rfl, hg⟩
      have H9 := Lib.hid (H8.out.grew hg)
      clear hg y0 y1
      have hidw : (Lit.int .u64 (s.last + 1)).wf = true := u64wf (by omega) (by omega)
      by_cases hr : (i : Int) < n - 1
      · have herr : tAcceptErr { s with last := s.last + 1 } ld (s.last + 1) = 0 := by
          have h1 := HS.out.len
          have h2 := HS.out.most
          rw [if_pos (by omega)] at h1
          exact acc_ok rfl (by omega) HS.out.fresh (by simp only; omega)
        have HAcc : Hid (Calls Try.prog 9 #[.pointer (some ⟨t, 0, none⟩), .int .i64 0, .agg #[.int .u32 7, .int .u16 80, .int .u32 ip, .int .u16 port], .int .u64 (s.last + 1)] w9 fun e w' => e = .returned (.tuple #[.int .i64 (lfd s.F), .int .i64 0]) ∧ TabIs wb w' t (chNext s ⟨7, 80, ip, port⟩)) := by
          have h1 := HS.out.len
          rw [if_pos (by omega)] at h1
          exact Lib.hid (tAccept H9.out (fd := 0) (by decide) HS.out.file rfl HS.out.desk hidw 7 80 ip port herr HS.out.fresh (Int.le_refl _) (by simp only; omega))
        have HN := Lib.hid (HS.out.next hr ⟨7, 80, ip, port⟩)
        have HIdw := Lib.hid hidw
        clear herr hidw
        go_wp2_with fail
        refine HAcc.out.mono ?_
        rintro e w10 ⟨rfl, h⟩
        have H10 := Lib.hid h
        clear h
        have HFile : Hid (Calls Try.prog 14 #[.pointer (some ⟨t, 0, none⟩), .int .i64 (lfd s.F)] w10 fun e w' => e = .returned (.tuple #[.agg #[.int .u8 1, .int .u8 2, .int .u64 (s.last + 1), .bool false], .bool true]) ∧ Grew w10 w') := by
          have c := tFile H10.out (fd := lfd s.F) (i64wf (by omega) (by have := (lfd_spec s.F).2.2; have := HS.out.len; split at this <;> omega))
          have e1 : mget (chNext s ⟨7, 80, ip, port⟩).F (lfd s.F : Int) = some ⟨1, 2, s.last + 1, false⟩ := by
            simp only [chNext]; rw [mget_mput, if_pos rfl]
          rw [e1] at c
          exact Lib.hid c
        have hch : mget (chNext s ⟨7, 80, ip, port⟩).S (s.last + 1) = some (childDesk ⟨7, 80, ip, port⟩) := by
          simp only [chNext]; rw [mget_append_none HS.out.fresh]; simp [mget]
        have HCh := Lib.hid hch
        clear hch
        go_wp2_with fail
        refine HFile.out.mono ?_
        rintro e w11 ⟨rfl, hg⟩
        have H11 := Lib.hid (H10.out.grew hg)
        have HDesk : Hid (∀ O, Calls Try.prog 15 #[.pointer (some ⟨t, 0, none⟩), .int .u64 (s.last + 1)] (w11.alloc O) fun e w' => e = .returned (.tuple #[.agg #[.int .u8 2, .int .u8 3, .int .u8 0, .int .u32 0, .int .u16 0, .bool false, .int .u32 7, .int .u16 80, .int .u32 ip, .int .u16 port], .bool true]) ∧ Grew (w11.alloc O) w') := Lib.hid fun O => tDesk (H11.out.grew (grew_alloc _ O)) HCh.out
        clear hg HFile
        go_wp2_with fail
        refine (HDesk.out _).mono ?_
        rintro e w12 ⟨rfl, hg⟩
        have hb17 : w12.heap[w11.heap.size]? = some (.cells #[.int .u8 1, .int .u8 2, .int .u64 (s.last + 1), .bool false] 42 (0, 0)) := (hg.block _ (by simp) fun h => h).trans (MapKept.heap_alloc w11 _).1
        have HB17 := Lib.hid hb17
        have H12 := Lib.hid ((H11.out.grew (grew_alloc _ _)).grew hg)
        clear hg HDesk hb17
        go_wp2_with fail
        have hb19 : (w12.alloc (.cells #[.int .u8 2, .int .u8 3, .int .u8 0, .int .u32 0, .int .u16 0, .bool false, .int .u32 7, .int .u16 80, .int .u32 ip, .int .u16 port] 48)).heap[w12.heap.size]? = some (.cells #[.int .u8 2, .int .u8 3, .int .u8 0, .int .u32 0, .int .u16 0, .bool false, .int .u32 7, .int .u16 80, .int .u32 ip, .int .u16 port] 48 (0, 0)) := (MapKept.heap_alloc w12 _).1
        have hb17 : (w12.alloc (.cells #[.int .u8 2, .int .u8 3, .int .u8 0, .int .u32 0, .int .u16 0, .bool false, .int .u32 7, .int .u16 80, .int .u32 ip, .int .u16 port] 48)).heap[w11.heap.size]? = some (.cells #[.int .u8 1, .int .u8 2, .int .u64 (s.last + 1), .bool false] 42 (0, 0)) := (Below.heap_alloc _ _ _ (Array.getElem?_eq_some_iff.1 HB17.out).1).trans HB17.out
        have H13 := Lib.hid (H12.out.grew (grew_alloc w12 (.cells #[.int .u8 2, .int .u8 3, .int .u8 0, .int .u32 0, .int .u16 0, .bool false, .int .u32 7, .int .u16 80, .int .u32 ip, .int .u16 port] 48)))
        generalize (w12.alloc (.cells #[.int .u8 2, .int .u8 3, .int .u8 0, .int .u32 0, .int .u16 0, .bool false, .int .u32 7, .int .u16 80, .int .u32 ip, .int .u16 port] 48)) = w13 at *
        obtain ⟨y0, y1⟩ := HC.out w13 H13.out.base
        obtain ⟨B17, hB17⟩ : ∃ b, w11.heap.size = b := ⟨_, rfl⟩
        obtain ⟨B19, hB19⟩ : ∃ b, w12.heap.size = b := ⟨_, rfl⟩
        obtain ⟨B2, hB2⟩ : ∃ b, w.heap.size = b := ⟨_, rfl⟩
        rw [hB17] at hb17 ⊢
        rw [hB19] at hb19 ⊢
        have a1 : w13.cell? ⟨B17, 1, none⟩ = some (.int .u8 2) := cell_of hb17 1
        have a2 : w13.cell? ⟨B17, 2, none⟩ = some (.int .u64 (s.last + 1)) := cell_of hb17 2
        have d1 : w13.cell? ⟨B19, 1, none⟩ = some (.int .u8 3) := cell_of hb19 1
        have d2 : w13.cell? ⟨B19, 2, none⟩ = some (.int .u8 0) := cell_of hb19 2
        have d3 : w13.cell? ⟨B19, 3, none⟩ = some (.int .u32 0) := cell_of hb19 3
        have d4 : w13.cell? ⟨B19, 4, none⟩ = some (.int .u16 0) := cell_of hb19 4
        have d5 : w13.cell? ⟨B19, 5, none⟩ = some (.bool false) := cell_of hb19 5
        have d6 : w13.cell? ⟨B19, 6, none⟩ = some (.int .u32 7) := cell_of hb19 6
        have d7 : w13.cell? ⟨B19, 7, none⟩ = some (.int .u16 80) := cell_of hb19 7
        have d8 : w13.cell? ⟨B19, 8, none⟩ = some (.int .u32 ip) := cell_of hb19 8
        have d9 : w13.cell? ⟨B19, 9, none⟩ = some (.int .u16 port) := cell_of hb19 9
        have hself : Grew w13 w13.drew := (Off.refl (fun _ => False) w13).drew
        clear hb17 hb19 hB17 hB19 hB2
        go_region_held3 (fun w' => Grew w13 w' ∧ w'.cell? ⟨w.heap.size, 0, none⟩ = some (.int .u32 ip) ∧ w'.cell? ⟨w.heap.size, 1, none⟩ = some (.int .u16 port) ∧ w'.cell? ⟨B17, 1, none⟩ = some (.int .u8 2) ∧ w'.cell? ⟨B17, 2, none⟩ = some (.int .u64 (s.last + 1)) ∧
            w'.cell? ⟨B19, 1, none⟩ = some (.int .u8 3) ∧ w'.cell? ⟨B19, 2, none⟩ = some (.int .u8 0) ∧ w'.cell? ⟨B19, 3, none⟩ = some (.int .u32 0) ∧ w'.cell? ⟨B19, 4, none⟩ = some (.int .u16 0) ∧ w'.cell? ⟨B19, 5, none⟩ = some (.bool false) ∧
            w'.cell? ⟨B19, 6, none⟩ = some (.int .u32 7) ∧ w'.cell? ⟨B19, 7, none⟩ = some (.int .u16 80) ∧ w'.cell? ⟨B19, 8, none⟩ = some (.int .u32 ip) ∧ w'.cell? ⟨B19, 9, none⟩ = some (.int .u16 port))
          (first
            | exact ⟨hself, y0, y1, a1, a2, d1, d2, d3, d4, d5, d6, d7, d8, d9⟩
            | go_keep
            | ((repeat' apply And.intro) <;> first | exact Off.trans (by assumption) hgr | exact (hgr.cell (World.block_lt_of_cell? _ _ (by assumption)) fun h => h).trans (by assumption)))
          (first | (go_at_call 10; refine (pair_any _ _ _).mono ?_; rintro e w' ⟨rfl, hgr⟩))
        rename_i hHeld
        obtain ⟨hS, x0, x1, _⟩ := hHeld
        have H14 := Lib.hid (H13.out.grew hS)
        clear hS hgr hself y0 y1 a1 a2 d1 d2 d3 d4 d5 d6 d7 d8 d9
        have HAcc2 : Hid (∀ wx, Grew w' wx → Calls Try.prog 9 #[.pointer (some ⟨t, 0, none⟩), .int .i64 0, .agg #[.int .u32 7, .int .u16 80, .int .u32 ip, .int .u16 port], .int .u64 (s.last + 1)] wx fun e w' => e = .returned (.tuple #[.int .i64 0, .int .i64 2]) ∧ TabIs wb w' t (chNext s ⟨7, 80, ip, port⟩)) := Lib.hid fun wx hg =>
          tAccept_err (H14.out.grew hg) (fd := 0) (by decide) (f := ⟨1, 2, 1, false⟩) HN.out.file rfl (d := ld) HN.out.desk (id := s.last + 1) HIdw.out 7 80 ip port (acc_there rfl HCh.out) (by decide)
        go_wp2_with fail
        refine (pair_any _ _ _).mono ?_
        rintro e w14 ⟨rfl, hg⟩
        have HAcc3 := Lib.hid (HAcc2.out w14 hg)
        clear hg HAcc2
        go_wp2_with fail
        refine HAcc3.out.mono ?_
        rintro e w15 ⟨rfl, h⟩
        have H15 := Lib.hid h
        clear h
        go_wp2_with fail
        exact ⟨⟨i + 1, _, by omega, by go_num, H15.out, HN.out⟩, by simp [intOf]; omega⟩
      · have herr : tAcceptErr { s with last := s.last + 1 } ld (s.last + 1) = 291 := by
          have h1 := HS.out.len
          have h2 := HS.out.most
          rw [if_neg (by omega)] at h1
          exact acc_full rfl (by omega) HS.out.fresh (by simp only; omega)
        have HAcc := Lib.hid (tAccept_err H9.out (fd := 0) (by decide) (f := ⟨1, 2, 1, false⟩) HS.out.file rfl (d := ld) HS.out.desk (id := s.last + 1) hidw 7 80 ip port herr (by decide))
        have HN := Lib.hid (HS.out.full (by omega))
        clear herr hidw
        go_wp2_with fail
        refine HAcc.out.mono ?_
        rintro e w10 ⟨rfl, h⟩
        have H10 := Lib.hid h
        clear h
        go_wp2_with fail
        exact ⟨⟨i + 1, _, by omega, by go_num, H10.out, HN.out⟩, by simp [intOf]; omega⟩
    · go_wp2_with fail
      refine (works_any _).mono ?_
      rintro e w8 ⟨rfl, hg⟩
      have HG := Lib.hid hg
      clear hg
      go_wp2_with fail
      go_ret
      exact ⟨rfl, (HG0.out.trans HT.out.base).trans HG.out⟩
end Go.Proofs.Ytnpfbdekomhonaa
