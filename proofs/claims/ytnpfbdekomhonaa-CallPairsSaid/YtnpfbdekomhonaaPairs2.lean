/- 'CallPairs': the walks. -/
import Derived.Test.YtnpfbdekomhonaaPairs1
import Derived.Deep.RegionHeld3
namespace Go.Proofs.Ytnpfbdekomhonaa
open Go.RowKit Stv

set_option maxRecDepth 100000 in
set_option maxHeartbeats 8000000 in
theorem pairs_ub (w : World) (i1 p1 i2 p2 draw : Int) (hi1 : 0 < i1) (hp1 : 0 < p1) (hi2 : 0 < i2) (hp2 : 0 < p2) (hd0 : 0 ≤ draw) (hd1 : draw ≤ 65535) :
    Calls Try.prog 4 #[.agg #[.int .u32 i1, .int .u16 p1], .agg #[.int .u32 i2, .int .u16 p2], .int .u16 draw, .bool true, .bool true] w fun e w' => e = .returned (.bool true) ∧ Grew w w' := by
  have HNew := Lib.hid (pairs_new w i1 p1 i2 p2)
  have HG0 := Lib.hid (pairsW_grew w i1 p1 i2 p2)
  have HC : Hid (∀ w', Grew (pairsW w i1 p1 i2 p2) w' → PairArgs w w' i1 p1 i2 p2) := Lib.hid fun w' hg => pairs_args hg
  have z1 : (i1 == 0) = false := beq_eq_false_iff_ne.2 (by omega)
  have z2 : (p1 == 0) = false := beq_eq_false_iff_ne.2 (by omega)
  have z3 : (i2 == 0) = false := beq_eq_false_iff_ne.2 (by omega)
  have z4 : (p2 == 0) = false := beq_eq_false_iff_ne.2 (by omega)
  have HI := Lib.hid (And.intro hi1 (And.intro hp1 (And.intro hi2 hp2)))
  have HD := Lib.hid (And.intro hd0 hd1)
  clear hi1 hp1 hi2 hp2 hd0 hd1
  go_enter Try.func4, Try.ntmps4
  go_wp2_with fail
  refine HNew.out.mono ?_
  rintro e w1 ⟨t, rfl, h⟩
  have H0 := Lib.hid h
  clear h HNew z1 z2 z3 z4
  generalize pairsW w i1 p1 i2 p2 = wb at *
  go_wp2_with fail
  refine (pr_sock H0.out (p := 1) (.inl rfl)).mono ?_
  rintro e w2 ⟨rfl, h⟩
  obtain ⟨x0, x1, x2, x3, n0, n1⟩ := HC.out w2 h.base
  have H1 := Lib.hid h
  clear h
  go_wp2_with fail
  refine (pr_bind H1.out (.inl rfl)).mono ?_
  rintro e w3 ⟨rfl, h⟩
  clear x0 x1 x2 x3 n0 n1
  obtain ⟨x0, x1, x2, x3, n0, n1⟩ := HC.out w3 h.base
  have H2 := Lib.hid h
  clear h
  have HConn : Hid (Calls Try.prog 17 #[.pointer (some ⟨t, 0, none⟩), .int .i64 0, .int .u32 8, .agg #[.int .u32 i1, .int .u16 p1], .int .u16 draw] w3 fun e w' => ∃ b1, e = .returned (.tuple #[.agg #[.int .u32 8, .int .u16 99, .int .u32 i1, .int .u16 p1], .int .i64 0]) ∧ TabIs wb w' t (prS 1 (connDesk (pd1 1) b1 8 i1 p1) [(1, b1)]) ∧ b1 = pb 1) :=
    Lib.hid ((pr_conn H2.out (.inl rfl) (by decide) (.inl (by decide)) HI.out.1 HI.out.2.1 HD.out.1 HD.out.2 (b1 := pb 1) (P1 := [(1, pb 1)]) (.inl rfl) (.inl ⟨by decide, rfl, rfl⟩)).mono fun e w' ⟨he, ht⟩ => ⟨pb 1, he, ht, rfl⟩)
  obtain ⟨q, hq⟩ : ∃ q : Int, q = 99 := ⟨_, rfl⟩
  go_wp2_with fail
  refine HConn.out.mono ?_
  rintro e w4 ⟨b1, rfl, h, hb1⟩
  have hbp : b1.port = 99 := by rw [hb1]; rfl
  have hb18 : b1.ip = 0 ∨ b1.ip = 8 := .inl (by rw [hb1]; rfl)
  have HB1 := Lib.hid (And.intro hbp hb18)
  have HB2 : Hid (b1.port ≠ 1000) := Lib.hid (by rw [hbp]; decide)
  clear hq q
  clear x0 x1 x2 x3 n0 n1 HConn
  obtain ⟨x0, x1, x2, x3, n0, n1⟩ := HC.out w4 h.base
  have HPair : Hid (∀ O, PairDesk (w4.alloc O) t b1 i1 p1 99) := Lib.hid fun O => pair_desk (h.grew (grew_alloc w4 O)) (by rw [hb1]; rfl) hbp hb18
  have H3 := Lib.hid h
  clear h hb1 hbp hb18
  go_wp2_with fail
  refine Calls.mono (HPair.out _) ?_
  rintro e w5 ⟨rfl, hg⟩
  have hb17 := (hg.block _ (by simp) fun h => h).trans (MapKept.heap_alloc w4 (.cells #[.int .u32 8, .int .u16 99, .int .u32 i1, .int .u16 p1] 36)).1
  have HB17 := Lib.hid hb17
  have HG5 := Lib.hid ((grew_alloc w4 (.cells #[.int .u32 8, .int .u16 99, .int .u32 i1, .int .u16 p1] 36)).trans hg)
  clear x0 x1 x2 x3 n0 n1
  obtain ⟨x0, x1, x2, x3, n0, n1⟩ := HC.out w5 (H3.out.base.trans HG5.out)
  have n17 : w4.heap.size < w5.heap.size := (Array.getElem?_eq_some_iff.1 hb17).1
  have a0 : w5.cell? ⟨w4.heap.size, 0, none⟩ = some (.int .u32 8) := cell_of hb17 0
  have a1 : w5.cell? ⟨w4.heap.size, 1, none⟩ = some (.int .u16 99) := cell_of hb17 1
  have a2 : w5.cell? ⟨w4.heap.size, 2, none⟩ = some (.int .u32 i1) := cell_of hb17 2
  have a3 : w5.cell? ⟨w4.heap.size, 3, none⟩ = some (.int .u16 p1) := cell_of hb17 3
  clear hg hb17 HPair
  have HC2 : Hid (∀ O, Calls Try.prog 17 #[.pointer (some ⟨t, 0, none⟩), .int .i64 0, .int .u32 8, .agg #[.int .u32 i2, .int .u16 p2], .int .u16 draw] (w5.alloc O) fun e w' =>
      e = .returned (.tuple #[.agg #[.int .u32 8, .int .u16 99, .int .u32 i2, .int .u16 p2], .int .i64 0]) ∧ TabIs wb w' t (prS 1 (connDesk (connDesk (pd1 1) b1 8 i1 p1) b1 8 i2 p2) [(1, b1)]) ∧ ∀ j, w4.heap.size ≤ j → j < (w5.alloc O).heap.size → w'.heap[j]? = (w5.alloc O).heap[j]?) := Lib.hid fun O => by
    have c := pr_conn_k (d := (connDesk (pd1 1) b1 8 i1 p1)) H3.out (HG5.out.alloc O) (.inl rfl) (show (3 : Int) ≠ 0 by decide) (show (3 : Int) ≠ 2 by decide) (.inr rfl) HI.out.2.2.1 HI.out.2.2.2 HD.out.1 HD.out.2 HB1.out.2
    rw [show ((connDesk (pd1 1) b1 8 i1 p1)).b.port = 99 from HB1.out.1] at c
    exact c
  go_wp2_with fail
  refine (HC2.out _).mono ?_
  rintro e w6 ⟨rfl, h, hk⟩
  have hb17 := (hk w4.heap.size (Nat.le_refl _) (by rw [World.size_alloc]; omega)).trans ((Below.heap_alloc _ _ _ n17).trans HB17.out)
  clear x0 x1 x2 x3 n0 n1 a0 a1 a2 a3 n17 hk HC2
  obtain ⟨x0, x1, x2, x3, n0, n1⟩ := HC.out w6 h.base
  have n17 : w4.heap.size < w6.heap.size := (Array.getElem?_eq_some_iff.1 hb17).1
  have a0 : w6.cell? ⟨w4.heap.size, 0, none⟩ = some (.int .u32 8) := cell_of hb17 0
  have a1 : w6.cell? ⟨w4.heap.size, 1, none⟩ = some (.int .u16 99) := cell_of hb17 1
  have HS : Hid (∀ O, TabIs wb (w6.alloc O) t (prS 1 (connDesk (connDesk (pd1 1) b1 8 i1 p1) b1 8 i2 p2) [(1, b1)])) := Lib.hid fun O => h.grew (grew_alloc _ _)
  clear h hb17
  go_wp2_with fail
  refine (pr_sock2 (HS.out _)).mono ?_
  rintro e w8 ⟨rfl, h⟩
  have H8 := Lib.hid h
  clear h
  go_wp2_with fail
  refine (pr_bind2 H8.out HB2.out).mono ?_
  rintro e w9 ⟨rfl, h⟩
  have H9 := Lib.hid h
  clear h
  go_wp2_with fail
  refine (pr_listen2 H9.out).mono ?_
  rintro e w10 ⟨rfl, h⟩
  clear x0 x1 x2 x3 n0 n1 a0 a1 n17
  obtain ⟨x0, x1, x2, x3, n0, n1⟩ := HC.out w10 h.base
  have H10 := Lib.hid h
  clear h
  go_wp2_with fail
  refine (pr_listens_call H10.out HI.out.1 HI.out.2.1 draw).mono ?_
  rintro e w11 ⟨rfl, h⟩
  clear x0 x1 x2 x3 n0 n1
  obtain ⟨x0, x1, x2, x3, n0, n1⟩ := HC.out w11 h.base
  have HF : Hid (∀ O, Calls Try.prog 17 #[.pointer (some ⟨t, 0, none⟩), .int .i64 1, .int .u32 9, .agg #[.int .u32 i1, .int .u16 p1], .int .u16 draw] (w11.alloc O) fun e w' => e = .returned (.tuple #[.agg #[.int .u32 0, .int .u16 0, .int .u32 0, .int .u16 0], .int .i64 2]) ∧ Grew wb w') := Lib.hid fun O => (pr_foreign_call (h.grew (grew_alloc _ O)) i1 p1 draw).mono fun e w' ⟨he, ht⟩ => ⟨he, ht.base⟩
  clear h
  go_wp2_with fail
  refine (HF.out _).mono ?_
  rintro e w12 ⟨rfl, hg⟩
  have HG12 := Lib.hid hg
  clear hg x0 x1 x2 x3 n0 n1 HF
  go_wp2_with fail
  refine (works_any _).mono ?_
  rintro e w13 ⟨rfl, hg⟩
  have HG13 := Lib.hid hg
  clear hg
  go_wp2_with fail
  go_ret
  exact ⟨rfl, (HG0.out.trans (HG12.out.alloc _)).trans HG13.out⟩


set_option maxRecDepth 100000 in
set_option maxHeartbeats 8000000 in
theorem pairs_un (w : World) (i1 p1 i2 p2 draw : Int) (hi1 : 0 < i1) (hp1 : 0 < p1) (hi2 : 0 < i2) (hp2 : 0 < p2) (hd0 : 0 ≤ draw) (hd1 : draw ≤ 65535) :
    Calls Try.prog 4 #[.agg #[.int .u32 i1, .int .u16 p1], .agg #[.int .u32 i2, .int .u16 p2], .int .u16 draw, .bool false, .bool true] w fun e w' => e = .returned (.bool true) ∧ Grew w w' := by
  have HNew := Lib.hid (pairs_new w i1 p1 i2 p2)
  have HG0 := Lib.hid (pairsW_grew w i1 p1 i2 p2)
  have HC : Hid (∀ w', Grew (pairsW w i1 p1 i2 p2) w' → PairArgs w w' i1 p1 i2 p2) := Lib.hid fun w' hg => pairs_args hg
  have z1 : (i1 == 0) = false := beq_eq_false_iff_ne.2 (by omega)
  have z2 : (p1 == 0) = false := beq_eq_false_iff_ne.2 (by omega)
  have z3 : (i2 == 0) = false := beq_eq_false_iff_ne.2 (by omega)
  have z4 : (p2 == 0) = false := beq_eq_false_iff_ne.2 (by omega)
  have HI := Lib.hid (And.intro hi1 (And.intro hp1 (And.intro hi2 hp2)))
  have HD := Lib.hid (And.intro hd0 hd1)
  clear hi1 hp1 hi2 hp2 hd0 hd1
  go_enter Try.func4, Try.ntmps4
  go_wp2_with fail
  refine HNew.out.mono ?_
  rintro e w1 ⟨t, rfl, h⟩
  have H0 := Lib.hid h
  clear h HNew z1 z2 z3 z4
  generalize pairsW w i1 p1 i2 p2 = wb at *
  go_wp2_with fail
  refine (pr_sock H0.out (p := 1) (.inl rfl)).mono ?_
  rintro e w2 ⟨rfl, h⟩
  obtain ⟨x0, x1, x2, x3, n0, n1⟩ := HC.out w2 h.base
  have H1 := Lib.hid h
  clear h
  go_wp2_with fail
  have HConn : Hid (Calls Try.prog 17 #[.pointer (some ⟨t, 0, none⟩), .int .i64 0, .int .u32 8, .agg #[.int .u32 i1, .int .u16 p1], .int .u16 draw] w2 fun e w' => ∃ b1 q, e = .returned (.tuple #[.agg #[.int .u32 8, .int .u16 q, .int .u32 i1, .int .u16 p1], .int .i64 0]) ∧ TabIs wb w' t (prS 1 (connDesk (desk0 1) b1 8 i1 p1) [(1, b1)]) ∧ b1 = ⟨1, 8, q, false⟩ ∧ 32768 ≤ q ∧ q ≤ 60999) :=
    Lib.hid ((pr_conn H1.out (.inl rfl) (by decide) (.inl (by decide)) HI.out.1 HI.out.2.1 HD.out.1 HD.out.2 (b1 := lendB ⟨1, 8, 0, false⟩ draw 0) (P1 := [(1, lendB ⟨1, 8, 0, false⟩ draw 0)]) (.inr rfl) (.inr ⟨rfl, rfl, rfl, rfl, rfl⟩)).mono fun e w' ⟨he, ht⟩ => ⟨_, (lendB ⟨1, 8, 0, false⟩ draw 0).port, he, ht, rfl, by simp only [lendB]; omega, by simp only [lendB]; omega⟩)
  go_wp2_with fail
  refine HConn.out.mono ?_
  rintro e w4 ⟨b1, q, rfl, h, hb1, hq0, hq1⟩
  have hbp : b1.port = q := by rw [hb1]
  have hb18 : b1.ip = 0 ∨ b1.ip = 8 := .inr (by rw [hb1])
  have HB1 := Lib.hid (And.intro hbp hb18)
  have HB2 : Hid (b1.port ≠ 1000) := Lib.hid (by rw [hbp]; omega)
  have q1 : decide (q < 32768) = false := decide_eq_false (by omega)
  have q2 : decide (60999 < q) = false := decide_eq_false (by omega)
  clear x0 x1 x2 x3 n0 n1 HConn
  obtain ⟨x0, x1, x2, x3, n0, n1⟩ := HC.out w4 h.base
  have HPair : Hid (∀ O, PairDesk (w4.alloc O) t b1 i1 p1 q) := Lib.hid fun O => pair_desk (h.grew (grew_alloc w4 O)) (by rw [hb1]; rfl) hbp hb18
  have H3 := Lib.hid h
  clear h hb1 hbp hb18
  go_wp2_with fail
  refine Calls.mono (HPair.out _) ?_
  rintro e w5 ⟨rfl, hg⟩
  have hb17 := (hg.block _ (by simp) fun h => h).trans (MapKept.heap_alloc w4 (.cells #[.int .u32 8, .int .u16 q, .int .u32 i1, .int .u16 p1] 36)).1
  have HB17 := Lib.hid hb17
  have HG5 := Lib.hid ((grew_alloc w4 (.cells #[.int .u32 8, .int .u16 q, .int .u32 i1, .int .u16 p1] 36)).trans hg)
  clear x0 x1 x2 x3 n0 n1
  obtain ⟨x0, x1, x2, x3, n0, n1⟩ := HC.out w5 (H3.out.base.trans HG5.out)
  have n17 : w4.heap.size < w5.heap.size := (Array.getElem?_eq_some_iff.1 hb17).1
  have a0 : w5.cell? ⟨w4.heap.size, 0, none⟩ = some (.int .u32 8) := cell_of hb17 0
  have a1 : w5.cell? ⟨w4.heap.size, 1, none⟩ = some (.int .u16 q) := cell_of hb17 1
  have a2 : w5.cell? ⟨w4.heap.size, 2, none⟩ = some (.int .u32 i1) := cell_of hb17 2
  have a3 : w5.cell? ⟨w4.heap.size, 3, none⟩ = some (.int .u16 p1) := cell_of hb17 3
  clear hg hb17 HPair
  have HC2 : Hid (∀ O, Calls Try.prog 17 #[.pointer (some ⟨t, 0, none⟩), .int .i64 0, .int .u32 8, .agg #[.int .u32 i2, .int .u16 p2], .int .u16 draw] (w5.alloc O) fun e w' =>
      e = .returned (.tuple #[.agg #[.int .u32 8, .int .u16 q, .int .u32 i2, .int .u16 p2], .int .i64 0]) ∧ TabIs wb w' t (prS 1 (connDesk (connDesk (desk0 1) b1 8 i1 p1) b1 8 i2 p2) [(1, b1)]) ∧ ∀ j, w4.heap.size ≤ j → j < (w5.alloc O).heap.size → w'.heap[j]? = (w5.alloc O).heap[j]?) := Lib.hid fun O => by
    have c := pr_conn_k (d := (connDesk (desk0 1) b1 8 i1 p1)) H3.out (HG5.out.alloc O) (.inl rfl) (show (3 : Int) ≠ 0 by decide) (show (3 : Int) ≠ 2 by decide) (.inr rfl) HI.out.2.2.1 HI.out.2.2.2 HD.out.1 HD.out.2 HB1.out.2
    rw [show ((connDesk (desk0 1) b1 8 i1 p1)).b.port = q from HB1.out.1] at c
    exact c
  go_wp2_with fail
  refine (HC2.out _).mono ?_
  rintro e w6 ⟨rfl, h, hk⟩
  have hb17 := (hk w4.heap.size (Nat.le_refl _) (by rw [World.size_alloc]; omega)).trans ((Below.heap_alloc _ _ _ n17).trans HB17.out)
  clear x0 x1 x2 x3 n0 n1 a0 a1 a2 a3 n17 hk HC2
  obtain ⟨x0, x1, x2, x3, n0, n1⟩ := HC.out w6 h.base
  have n17 : w4.heap.size < w6.heap.size := (Array.getElem?_eq_some_iff.1 hb17).1
  have a0 : w6.cell? ⟨w4.heap.size, 0, none⟩ = some (.int .u32 8) := cell_of hb17 0
  have a1 : w6.cell? ⟨w4.heap.size, 1, none⟩ = some (.int .u16 q) := cell_of hb17 1
  have HS : Hid (∀ O, TabIs wb (w6.alloc O) t (prS 1 (connDesk (connDesk (desk0 1) b1 8 i1 p1) b1 8 i2 p2) [(1, b1)])) := Lib.hid fun O => h.grew (grew_alloc _ _)
  clear h hb17
  go_wp2_with fail
  refine (pr_sock2 (HS.out _)).mono ?_
  rintro e w8 ⟨rfl, h⟩
  have H8 := Lib.hid h
  clear h
  go_wp2_with fail
  refine (pr_bind2 H8.out HB2.out).mono ?_
  rintro e w9 ⟨rfl, h⟩
  have H9 := Lib.hid h
  clear h
  go_wp2_with fail
  refine (pr_listen2 H9.out).mono ?_
  rintro e w10 ⟨rfl, h⟩
  clear x0 x1 x2 x3 n0 n1 a0 a1 n17
  obtain ⟨x0, x1, x2, x3, n0, n1⟩ := HC.out w10 h.base
  have H10 := Lib.hid h
  clear h
  go_wp2_with fail
  refine (pr_listens_call H10.out HI.out.1 HI.out.2.1 draw).mono ?_
  rintro e w11 ⟨rfl, h⟩
  clear x0 x1 x2 x3 n0 n1
  obtain ⟨x0, x1, x2, x3, n0, n1⟩ := HC.out w11 h.base
  have HF : Hid (∀ O, Calls Try.prog 17 #[.pointer (some ⟨t, 0, none⟩), .int .i64 1, .int .u32 9, .agg #[.int .u32 i1, .int .u16 p1], .int .u16 draw] (w11.alloc O) fun e w' => e = .returned (.tuple #[.agg #[.int .u32 0, .int .u16 0, .int .u32 0, .int .u16 0], .int .i64 2]) ∧ Grew wb w') := Lib.hid fun O => (pr_foreign_call (h.grew (grew_alloc _ O)) i1 p1 draw).mono fun e w' ⟨he, ht⟩ => ⟨he, ht.base⟩
  clear h
  go_wp2_with fail
  refine (HF.out _).mono ?_
  rintro e w12 ⟨rfl, hg⟩
  have HG12 := Lib.hid hg
  clear hg x0 x1 x2 x3 n0 n1 HF
  go_wp2_with fail
  refine (works_any _).mono ?_
  rintro e w13 ⟨rfl, hg⟩
  have HG13 := Lib.hid hg
  clear hg
  go_wp2_with fail
  go_ret
  exact ⟨rfl, (HG0.out.trans (HG12.out.alloc _)).trans HG13.out⟩


set_option maxRecDepth 100000 in
set_option maxHeartbeats 8000000 in
theorem pairs_tb (w : World) (i1 p1 i2 p2 draw : Int) (hi1 : 0 < i1) (hp1 : 0 < p1) (hi2 : 0 < i2) (hp2 : 0 < p2) (hd0 : 0 ≤ draw) (hd1 : draw ≤ 65535) :
    Calls Try.prog 4 #[.agg #[.int .u32 i1, .int .u16 p1], .agg #[.int .u32 i2, .int .u16 p2], .int .u16 draw, .bool true, .bool false] w fun e w' => e = .returned (.bool true) ∧ Grew w w' := by
  have HNew := Lib.hid (pairs_new w i1 p1 i2 p2)
  have HG0 := Lib.hid (pairsW_grew w i1 p1 i2 p2)
  have HC : Hid (∀ w', Grew (pairsW w i1 p1 i2 p2) w' → PairArgs w w' i1 p1 i2 p2) := Lib.hid fun w' hg => pairs_args hg
  have z1 : (i1 == 0) = false := beq_eq_false_iff_ne.2 (by omega)
  have z2 : (p1 == 0) = false := beq_eq_false_iff_ne.2 (by omega)
  have z3 : (i2 == 0) = false := beq_eq_false_iff_ne.2 (by omega)
  have z4 : (p2 == 0) = false := beq_eq_false_iff_ne.2 (by omega)
  have HI := Lib.hid (And.intro hi1 (And.intro hp1 (And.intro hi2 hp2)))
  have HD := Lib.hid (And.intro hd0 hd1)
  clear hi1 hp1 hi2 hp2 hd0 hd1
  go_enter Try.func4, Try.ntmps4
  go_wp2_with fail
  refine HNew.out.mono ?_
  rintro e w1 ⟨t, rfl, h⟩
  have H0 := Lib.hid h
  clear h HNew z1 z2 z3 z4
  generalize pairsW w i1 p1 i2 p2 = wb at *
  go_wp2_with fail
  refine (pr_sock H0.out (p := 2) (.inr rfl)).mono ?_
  rintro e w2 ⟨rfl, h⟩
  obtain ⟨x0, x1, x2, x3, n0, n1⟩ := HC.out w2 h.base
  have H1 := Lib.hid h
  clear h
  go_wp2_with fail
  refine (pr_bind H1.out (.inr rfl)).mono ?_
  rintro e w3 ⟨rfl, h⟩
  clear x0 x1 x2 x3 n0 n1
  obtain ⟨x0, x1, x2, x3, n0, n1⟩ := HC.out w3 h.base
  have H2 := Lib.hid h
  clear h
  have HConn : Hid (Calls Try.prog 17 #[.pointer (some ⟨t, 0, none⟩), .int .i64 0, .int .u32 8, .agg #[.int .u32 i1, .int .u16 p1], .int .u16 draw] w3 fun e w' => ∃ b1, e = .returned (.tuple #[.agg #[.int .u32 8, .int .u16 99, .int .u32 i1, .int .u16 p1], .int .i64 0]) ∧ TabIs wb w' t (prS 2 (connDesk (pd1 2) b1 8 i1 p1) [(1, b1)]) ∧ b1 = pb 2) :=
    Lib.hid ((pr_conn H2.out (.inr rfl) (by decide) (.inl (by decide)) HI.out.1 HI.out.2.1 HD.out.1 HD.out.2 (b1 := pb 2) (P1 := [(1, pb 2)]) (.inl rfl) (.inl ⟨by decide, rfl, rfl⟩)).mono fun e w' ⟨he, ht⟩ => ⟨pb 2, he, ht, rfl⟩)
  obtain ⟨q, hq⟩ : ∃ q : Int, q = 99 := ⟨_, rfl⟩
  go_wp2_with fail
  refine HConn.out.mono ?_
  rintro e w4 ⟨b1, rfl, h, hb1⟩
  have hbp : b1.port = 99 := by rw [hb1]; rfl
  have hb18 : b1.ip = 0 ∨ b1.ip = 8 := .inl (by rw [hb1]; rfl)
  have HB1 := Lib.hid (And.intro hbp hb18)
  have HB2 : Hid (b1.port ≠ 1000) := Lib.hid (by rw [hbp]; decide)
  clear hq q
  clear x0 x1 x2 x3 n0 n1 HConn
  obtain ⟨x0, x1, x2, x3, n0, n1⟩ := HC.out w4 h.base
  have HPair : Hid (∀ O, PairDesk (w4.alloc O) t b1 i1 p1 99) := Lib.hid fun O => pair_desk (h.grew (grew_alloc w4 O)) (by rw [hb1]; rfl) hbp hb18
  have H3 := Lib.hid h
  clear h hb1 hbp hb18
  go_wp2_with fail
  refine Calls.mono (HPair.out _) ?_
  rintro e w5 ⟨rfl, hg⟩
  have hb17 := (hg.block _ (by simp) fun h => h).trans (MapKept.heap_alloc w4 (.cells #[.int .u32 8, .int .u16 99, .int .u32 i1, .int .u16 p1] 36)).1
  have HB17 := Lib.hid hb17
  have HG5 := Lib.hid ((grew_alloc w4 (.cells #[.int .u32 8, .int .u16 99, .int .u32 i1, .int .u16 p1] 36)).trans hg)
  clear x0 x1 x2 x3 n0 n1
  obtain ⟨x0, x1, x2, x3, n0, n1⟩ := HC.out w5 (H3.out.base.trans HG5.out)
  have n17 : w4.heap.size < w5.heap.size := (Array.getElem?_eq_some_iff.1 hb17).1
  have a0 : w5.cell? ⟨w4.heap.size, 0, none⟩ = some (.int .u32 8) := cell_of hb17 0
  have a1 : w5.cell? ⟨w4.heap.size, 1, none⟩ = some (.int .u16 99) := cell_of hb17 1
  have a2 : w5.cell? ⟨w4.heap.size, 2, none⟩ = some (.int .u32 i1) := cell_of hb17 2
  have a3 : w5.cell? ⟨w4.heap.size, 3, none⟩ = some (.int .u16 p1) := cell_of hb17 3
  clear hg hb17 HPair
  have HC2 : Hid (∀ O, Calls Try.prog 17 #[.pointer (some ⟨t, 0, none⟩), .int .i64 0, .int .u32 8, .agg #[.int .u32 i2, .int .u16 p2], .int .u16 draw] (w5.alloc O) fun e w' =>
      e = .returned (.tuple #[.agg #[.int .u32 0, .int .u16 0, .int .u32 0, .int .u16 0], .int .i64 292]) ∧ TabIs wb w' t (prS 2 (connDesk (pd1 2) b1 8 i1 p1) [(1, b1)])) := Lib.hid fun O =>
    pr_again_call (d := (connDesk (pd1 2) b1 8 i1 p1)) (H3.out.grew (HG5.out.alloc O)) rfl rfl HI.out.2.2.1 HI.out.2.2.2 draw
  go_wp2_with fail
  refine (HC2.out _).mono ?_
  rintro e w6 ⟨rfl, h⟩
  clear x0 x1 x2 x3 n0 n1 a0 a1 a2 a3 n17 HC2
  have HL3 : Hid (∀ O, Calls Try.prog 13 #[.pointer (some ⟨t, 0, none⟩), .int .i64 0] (w6.alloc O) fun e w' => e = .returned (.int .i64 292) ∧ TabIs wb w' t (prS 2 (connDesk (pd1 2) b1 8 i1 p1) [(1, b1)])) := Lib.hid fun O => pr_listen3 (d := (connDesk (pd1 2) b1 8 i1 p1)) (h.grew (grew_alloc _ O)) rfl rfl
  clear h
  go_wp2_with fail
  refine (HL3.out _).mono ?_
  rintro e w7 ⟨rfl, h⟩
  have HS := Lib.hid h
  clear h
  go_wp2_with fail
  refine (pr_sock2 HS.out).mono ?_
  rintro e w8 ⟨rfl, h⟩
  have H8 := Lib.hid h
  clear h
  go_wp2_with fail
  refine (pr_bind2 H8.out HB2.out).mono ?_
  rintro e w9 ⟨rfl, h⟩
  have H9 := Lib.hid h
  clear h
  go_wp2_with fail
  refine (pr_listen2 H9.out).mono ?_
  rintro e w10 ⟨rfl, h⟩
  skip
  obtain ⟨x0, x1, x2, x3, n0, n1⟩ := HC.out w10 h.base
  have H10 := Lib.hid h
  clear h
  go_wp2_with fail
  refine (pr_listens_call H10.out HI.out.1 HI.out.2.1 draw).mono ?_
  rintro e w11 ⟨rfl, h⟩
  clear x0 x1 x2 x3 n0 n1
  obtain ⟨x0, x1, x2, x3, n0, n1⟩ := HC.out w11 h.base
  have HF : Hid (∀ O, Calls Try.prog 17 #[.pointer (some ⟨t, 0, none⟩), .int .i64 1, .int .u32 9, .agg #[.int .u32 i1, .int .u16 p1], .int .u16 draw] (w11.alloc O) fun e w' => e = .returned (.tuple #[.agg #[.int .u32 0, .int .u16 0, .int .u32 0, .int .u16 0], .int .i64 2]) ∧ Grew wb w') := Lib.hid fun O => (pr_foreign_call (h.grew (grew_alloc _ O)) i1 p1 draw).mono fun e w' ⟨he, ht⟩ => ⟨he, ht.base⟩
  clear h
  go_wp2_with fail
  refine (HF.out _).mono ?_
  rintro e w12 ⟨rfl, hg⟩
  have HG12 := Lib.hid hg
  clear hg x0 x1 x2 x3 n0 n1 HF
  go_wp2_with fail
  refine (works_any _).mono ?_
  rintro e w13 ⟨rfl, hg⟩
  have HG13 := Lib.hid hg
  clear hg
  go_wp2_with fail
  go_ret
  exact ⟨rfl, (HG0.out.trans (HG12.out.alloc _)).trans HG13.out⟩


set_option maxRecDepth 100000 in
set_option maxHeartbeats 8000000 in
theorem pairs_tn (w : World) (i1 p1 i2 p2 draw : Int) (hi1 : 0 < i1) (hp1 : 0 < p1) (hi2 : 0 < i2) (hp2 : 0 < p2) (hd0 : 0 ≤ draw) (hd1 : draw ≤ 65535) :
    Calls Try.prog 4 #[.agg #[.int .u32 i1, .int .u16 p1], .agg #[.int .u32 i2, .int .u16 p2], .int .u16 draw, .bool false, .bool false] w fun e w' => e = .returned (.bool true) ∧ Grew w w' := by
  have HNew := Lib.hid (pairs_new w i1 p1 i2 p2)
  have HG0 := Lib.hid (pairsW_grew w i1 p1 i2 p2)
  have HC : Hid (∀ w', Grew (pairsW w i1 p1 i2 p2) w' → PairArgs w w' i1 p1 i2 p2) := Lib.hid fun w' hg => pairs_args hg
  have z1 : (i1 == 0) = false := beq_eq_false_iff_ne.2 (by omega)
  have z2 : (p1 == 0) = false := beq_eq_false_iff_ne.2 (by omega)
  have z3 : (i2 == 0) = false := beq_eq_false_iff_ne.2 (by omega)
  have z4 : (p2 == 0) = false := beq_eq_false_iff_ne.2 (by omega)
  have HI := Lib.hid (And.intro hi1 (And.intro hp1 (And.intro hi2 hp2)))
  have HD := Lib.hid (And.intro hd0 hd1)
  clear hi1 hp1 hi2 hp2 hd0 hd1
  go_enter Try.func4, Try.ntmps4
  go_wp2_with fail
  refine HNew.out.mono ?_
  rintro e w1 ⟨t, rfl, h⟩
  have H0 := Lib.hid h
  clear h HNew z1 z2 z3 z4
  generalize pairsW w i1 p1 i2 p2 = wb at *
  go_wp2_with fail
  refine (pr_sock H0.out (p := 2) (.inr rfl)).mono ?_
  rintro e w2 ⟨rfl, h⟩
  obtain ⟨x0, x1, x2, x3, n0, n1⟩ := HC.out w2 h.base
  have H1 := Lib.hid h
  clear h
  go_wp2_with fail
  have HConn : Hid (Calls Try.prog 17 #[.pointer (some ⟨t, 0, none⟩), .int .i64 0, .int .u32 8, .agg #[.int .u32 i1, .int .u16 p1], .int .u16 draw] w2 fun e w' => ∃ b1 q, e = .returned (.tuple #[.agg #[.int .u32 8, .int .u16 q, .int .u32 i1, .int .u16 p1], .int .i64 0]) ∧ TabIs wb w' t (prS 2 (connDesk (desk0 2) b1 8 i1 p1) [(1, b1)]) ∧ b1 = ⟨2, 8, q, false⟩ ∧ 32768 ≤ q ∧ q ≤ 60999) :=
    Lib.hid ((pr_conn H1.out (.inr rfl) (by decide) (.inl (by decide)) HI.out.1 HI.out.2.1 HD.out.1 HD.out.2 (b1 := lendB ⟨2, 8, 0, false⟩ draw 0) (P1 := [(1, lendB ⟨2, 8, 0, false⟩ draw 0)]) (.inr rfl) (.inr ⟨rfl, rfl, rfl, rfl, rfl⟩)).mono fun e w' ⟨he, ht⟩ => ⟨_, (lendB ⟨2, 8, 0, false⟩ draw 0).port, he, ht, rfl, by simp only [lendB]; omega, by simp only [lendB]; omega⟩)
  go_wp2_with fail
  refine HConn.out.mono ?_
  rintro e w4 ⟨b1, q, rfl, h, hb1, hq0, hq1⟩
  have hbp : b1.port = q := by rw [hb1]
  have hb18 : b1.ip = 0 ∨ b1.ip = 8 := .inr (by rw [hb1])
  have HB1 := Lib.hid (And.intro hbp hb18)
  have HB2 : Hid (b1.port ≠ 1000) := Lib.hid (by rw [hbp]; omega)
  have q1 : decide (q < 32768) = false := decide_eq_false (by omega)
  have q2 : decide (60999 < q) = false := decide_eq_false (by omega)
  clear x0 x1 x2 x3 n0 n1 HConn
  obtain ⟨x0, x1, x2, x3, n0, n1⟩ := HC.out w4 h.base
  have HPair : Hid (∀ O, PairDesk (w4.alloc O) t b1 i1 p1 q) := Lib.hid fun O => pair_desk (h.grew (grew_alloc w4 O)) (by rw [hb1]; rfl) hbp hb18
  have H3 := Lib.hid h
  clear h hb1 hbp hb18
  go_wp2_with fail
  refine Calls.mono (HPair.out _) ?_
  rintro e w5 ⟨rfl, hg⟩
  have hb17 := (hg.block _ (by simp) fun h => h).trans (MapKept.heap_alloc w4 (.cells #[.int .u32 8, .int .u16 q, .int .u32 i1, .int .u16 p1] 36)).1
  have HB17 := Lib.hid hb17
  have HG5 := Lib.hid ((grew_alloc w4 (.cells #[.int .u32 8, .int .u16 q, .int .u32 i1, .int .u16 p1] 36)).trans hg)
  clear x0 x1 x2 x3 n0 n1
  obtain ⟨x0, x1, x2, x3, n0, n1⟩ := HC.out w5 (H3.out.base.trans HG5.out)
  have n17 : w4.heap.size < w5.heap.size := (Array.getElem?_eq_some_iff.1 hb17).1
  have a0 : w5.cell? ⟨w4.heap.size, 0, none⟩ = some (.int .u32 8) := cell_of hb17 0
  have a1 : w5.cell? ⟨w4.heap.size, 1, none⟩ = some (.int .u16 q) := cell_of hb17 1
  have a2 : w5.cell? ⟨w4.heap.size, 2, none⟩ = some (.int .u32 i1) := cell_of hb17 2
  have a3 : w5.cell? ⟨w4.heap.size, 3, none⟩ = some (.int .u16 p1) := cell_of hb17 3
  clear hg hb17 HPair
  have HC2 : Hid (∀ O, Calls Try.prog 17 #[.pointer (some ⟨t, 0, none⟩), .int .i64 0, .int .u32 8, .agg #[.int .u32 i2, .int .u16 p2], .int .u16 draw] (w5.alloc O) fun e w' =>
      e = .returned (.tuple #[.agg #[.int .u32 0, .int .u16 0, .int .u32 0, .int .u16 0], .int .i64 292]) ∧ TabIs wb w' t (prS 2 (connDesk (desk0 2) b1 8 i1 p1) [(1, b1)])) := Lib.hid fun O =>
    pr_again_call (d := (connDesk (desk0 2) b1 8 i1 p1)) (H3.out.grew (HG5.out.alloc O)) rfl rfl HI.out.2.2.1 HI.out.2.2.2 draw
  go_wp2_with fail
  refine (HC2.out _).mono ?_
  rintro e w6 ⟨rfl, h⟩
  clear x0 x1 x2 x3 n0 n1 a0 a1 a2 a3 n17 HC2
  have HL3 : Hid (∀ O, Calls Try.prog 13 #[.pointer (some ⟨t, 0, none⟩), .int .i64 0] (w6.alloc O) fun e w' => e = .returned (.int .i64 292) ∧ TabIs wb w' t (prS 2 (connDesk (desk0 2) b1 8 i1 p1) [(1, b1)])) := Lib.hid fun O => pr_listen3 (d := (connDesk (desk0 2) b1 8 i1 p1)) (h.grew (grew_alloc _ O)) rfl rfl
  clear h
  go_wp2_with fail
  refine (HL3.out _).mono ?_
  rintro e w7 ⟨rfl, h⟩
  have HS := Lib.hid h
  clear h
  go_wp2_with fail
  refine (pr_sock2 HS.out).mono ?_
  rintro e w8 ⟨rfl, h⟩
  have H8 := Lib.hid h
  clear h
  go_wp2_with fail
  refine (pr_bind2 H8.out HB2.out).mono ?_
  rintro e w9 ⟨rfl, h⟩
  have H9 := Lib.hid h
  clear h
  go_wp2_with fail
  refine (pr_listen2 H9.out).mono ?_
  rintro e w10 ⟨rfl, h⟩
  skip
  obtain ⟨x0, x1, x2, x3, n0, n1⟩ := HC.out w10 h.base
  have H10 := Lib.hid h
  clear h
  go_wp2_with fail
  refine (pr_listens_call H10.out HI.out.1 HI.out.2.1 draw).mono ?_
  rintro e w11 ⟨rfl, h⟩
  clear x0 x1 x2 x3 n0 n1
  obtain ⟨x0, x1, x2, x3, n0, n1⟩ := HC.out w11 h.base
  have HF : Hid (∀ O, Calls Try.prog 17 #[.pointer (some ⟨t, 0, none⟩), .int .i64 1, .int .u32 9, .agg #[.int .u32 i1, .int .u16 p1], .int .u16 draw] (w11.alloc O) fun e w' => e = .returned (.tuple #[.agg #[.int .u32 0, .int .u16 0, .int .u32 0, .int .u16 0], .int .i64 2]) ∧ Grew wb w') := Lib.hid fun O => (pr_foreign_call (h.grew (grew_alloc _ O)) i1 p1 draw).mono fun e w' ⟨he, ht⟩ => ⟨he, ht.base⟩
  clear h
  go_wp2_with fail
  refine (HF.out _).mono ?_
  rintro e w12 ⟨rfl, hg⟩
  have HG12 := Lib.hid hg
  clear hg x0 x1 x2 x3 n0 n1 HF
  go_wp2_with fail
  refine (works_any _).mono ?_
  rintro e w13 ⟨rfl, hg⟩
  have HG13 := Lib.hid hg
  clear hg
  go_wp2_with fail
  go_ret
  exact ⟨rfl, (HG0.out.trans (HG12.out.alloc _)).trans HG13.out⟩


set_option maxRecDepth 100000 in
set_option maxHeartbeats 2000000 in
theorem pairs_zero (w : World) (i1 p1 i2 p2 draw : Int) (B U : Bool) (h : (i1 == 0) = true ∨ ((i1 == 0) = false ∧ (p1 == 0) = true) ∨ ((i1 == 0) = false ∧ (p1 == 0) = false ∧ (i2 == 0) = true) ∨ ((i1 == 0) = false ∧ (p1 == 0) = false ∧ (i2 == 0) = false ∧ (p2 == 0) = true)) :
    Calls Try.prog 4 #[.agg #[.int .u32 i1, .int .u16 p1], .agg #[.int .u32 i2, .int .u16 p2], .int .u16 draw, .bool B, .bool U] w fun e w' => e = .returned (.bool true) ∧ Grew w w' := by
  have HG0 := Lib.hid (pairsW_grew w i1 p1 i2 p2)
  rcases h with z1 | ⟨z1, z2⟩ | ⟨z1, z2, z3⟩ | ⟨z1, z2, z3, z4⟩
  all_goals
    go_enter Try.func4, Try.ntmps4
    go_wp2_with fail
    refine (works_any _).mono ?_
    rintro e w1 ⟨rfl, hg⟩
    have HG1 := Lib.hid (HG0.out.trans hg)
    clear hg
    go_wp2_with fail
    go_ret
    exact ⟨rfl, HG1.out⟩

theorem pairs_any (w : World) (i1 p1 i2 p2 draw : Int) (B U : Bool) (hi1 : 0 ≤ i1) (hp1 : 0 ≤ p1) (hi2 : 0 ≤ i2) (hp2 : 0 ≤ p2) (hd0 : 0 ≤ draw) (hd1 : draw ≤ 65535) :
    Calls Try.prog 4 #[.agg #[.int .u32 i1, .int .u16 p1], .agg #[.int .u32 i2, .int .u16 p2], .int .u16 draw, .bool B, .bool U] w fun e w' => e = .returned (.bool true) ∧ Grew w w' := by
  cases z1 : (i1 == 0) with
  | true => exact pairs_zero w i1 p1 i2 p2 draw B U (.inl z1)
  | false =>
    cases z2 : (p1 == 0) with
    | true => exact pairs_zero w i1 p1 i2 p2 draw B U (.inr (.inl ⟨z1, z2⟩))
    | false =>
      cases z3 : (i2 == 0) with
      | true => exact pairs_zero w i1 p1 i2 p2 draw B U (.inr (.inr (.inl ⟨z1, z2, z3⟩)))
      | false =>
        cases z4 : (p2 == 0) with
        | true => exact pairs_zero w i1 p1 i2 p2 draw B U (.inr (.inr (.inr ⟨z1, z2, z3, z4⟩)))
        | false =>
          have y1 : i1 ≠ 0 := beq_eq_false_iff_ne.1 z1
          have y2 : p1 ≠ 0 := beq_eq_false_iff_ne.1 z2
          have y3 : i2 ≠ 0 := beq_eq_false_iff_ne.1 z3
          have y4 : p2 ≠ 0 := beq_eq_false_iff_ne.1 z4
          cases U <;> cases B
          · exact pairs_tn w i1 p1 i2 p2 draw (by omega) (by omega) (by omega) (by omega) hd0 hd1
          · exact pairs_tb w i1 p1 i2 p2 draw (by omega) (by omega) (by omega) (by omega) hd0 hd1
          · exact pairs_un w i1 p1 i2 p2 draw (by omega) (by omega) (by omega) (by omega) hd0 hd1
          · exact pairs_ub w i1 p1 i2 p2 draw (by omega) (by omega) (by omega) (by omega) hd0 hd1
end Go.Proofs.Ytnpfbdekomhonaa
