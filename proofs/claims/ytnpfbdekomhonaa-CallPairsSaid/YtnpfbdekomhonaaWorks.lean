/- 'works': the document's example; 'pair'. -/
import Derived.Test.YtnpfbdekomhonaaTab9
namespace Go.Proofs.Ytnpfbdekomhonaa
open Go.RowKit Stv

def b80 : Bnd := ⟨2, 7, 80, false⟩
def wk0 : TS := ⟨2, 0, [7], [], [], []⟩
def wk1 : TS := ⟨2, 1, [7], [(0, ⟨1, 2, 1, false⟩)], [(1, desk0 2)], []⟩
def wk2 : TS := ⟨2, 1, [7], [(0, ⟨1, 2, 1, false⟩)], [(1, { desk0 2 with is := 1, b := b80 })], [(1, b80)]⟩
def wk3 : TS := ⟨2, 1, [7], [(0, ⟨1, 2, 1, false⟩)], [(1, { desk0 2 with is := 2, b := b80 })], [(1, b80)]⟩
def wk4 : TS := ⟨2, 2, [7], [(0, ⟨1, 2, 1, false⟩), (1, ⟨1, 1, 2, false⟩)], [(1, { desk0 2 with is := 2, b := b80 }), (2, desk0 1)], [(1, b80)]⟩

set_option maxRecDepth 100000 in
set_option maxHeartbeats 2000000 in
theorem works_any (w : World) : Calls Try.prog 16 #[] w fun e w' => e = .returned (.bool true) ∧ Grew w w' := by
  have hown : OwnRow (w.alloc (.cells #[.int .u32 7] 22)) 22 1 (.slice (some ⟨w.heap.size, 0, none⟩) 1 1) ([7] : List Int).length (([7] : List Int).map (Value.int .u32)) := own_lit (l := [7]) (MapKept.heap_alloc w _).1 (by decide)
  have HNew := Lib.hid (tNew (w0 := w) (n := 2) (by decide) (by decide) rfl hown (by decide) (by decide) (grew_alloc _ _))
  clear hown
  go_enter Try.func16, Try.ntmps16
  go_wp2_with fail
  refine HNew.out.mono ?_
  rintro e w1 ⟨t, rfl, h⟩
  have h : TabIs w w1 t wk0 := h
  have H0 := Lib.hid h
  clear h HNew
  go_wp2_with fail
  refine (Calls.mono (tSocket H0.out (by decide) (by decide) (by decide) (by decide) rfl (proto := 2) (.inr rfl)) (R' := fun e w' => e = .returned (.tuple #[.int .i64 0, .int .u64 1, .int .i64 0]) ∧ TabIs w w' t wk1) fun e w' ⟨he, ht⟩ => ⟨he, ht⟩).mono ?_
  rintro e w2 ⟨rfl, h⟩
  have H1 := Lib.hid h
  clear h
  go_wp2_with fail
  refine (Calls.mono (tBind H1.out (by decide) (fd := 0) (by decide) (f := ⟨1, 2, 1, false⟩) rfl rfl (d := desk0 2) rfl 7 80 (by decide) (.inr rfl) (by decide)) (R' := fun e w' => e = .returned (.int .i64 0) ∧ TabIs w w' t wk2) fun e w' ⟨he, ht⟩ => ⟨he, ht⟩).mono ?_
  rintro e w3 ⟨rfl, h⟩
  have H2 := Lib.hid h
  clear h
  go_wp2_with fail
  refine (Calls.mono (tListen H2.out (fd := 0) (by decide) (f := ⟨1, 2, 1, false⟩) rfl rfl (d := { desk0 2 with is := 1, b := b80 }) rfl) (R' := fun e w' => e = .returned (.int .i64 0) ∧ TabIs w w' t wk3) fun e w' ⟨he, ht⟩ => ⟨he, ht⟩).mono ?_
  rintro e w4 ⟨rfl, h⟩
  have H3 := Lib.hid h
  clear h
  go_wp2_with fail
  refine (Calls.mono (tSocket H3.out (by decide) (by decide) (by decide) (by decide) rfl (proto := 1) (.inl rfl)) (R' := fun e w' => e = .returned (.tuple #[.int .i64 1, .int .u64 2, .int .i64 0]) ∧ TabIs w w' t wk4) fun e w' ⟨he, ht⟩ => ⟨he, ht⟩).mono ?_
  rintro e w5 ⟨rfl, h⟩
  have H4 := Lib.hid h
  clear h
  go_wp2_with fail
  refine (tLook_full H4.out (by decide)).mono ?_
  rintro e w6 ⟨rfl, h⟩
  have H5 := Lib.hid h
  clear h
  go_wp2_with fail
  refine (Calls.mono (tDesk H5.out (id := 1) (d := { desk0 2 with is := 2, b := b80 }) rfl) (R' := fun e w' => e = .returned (.tuple #[.agg #[.int .u8 2, .int .u8 2, .int .u8 2, .int .u32 7, .int .u16 80, .bool false, .int .u32 0, .int .u16 0, .int .u32 0, .int .u16 0], .bool true]) ∧ TabIs w w' t wk4) fun e w' ⟨he, ht⟩ => ⟨he, H5.out.grew ht⟩).mono ?_
  rintro e w7 ⟨rfl, h⟩
  have H6 := Lib.hid h
  clear h
  go_wp2_with fail
  go_ret
  exact ⟨rfl, H6.out.base.trans (grew_alloc _ _)⟩

theorem pair_any (ip port : Int) (w : World) : Calls Try.prog 10 #[.agg #[.int .u32 ip, .int .u16 port]] w fun e w' => e = .returned (.agg #[.int .u32 7, .int .u16 80, .int .u32 ip, .int .u16 port]) ∧ Grew w w' := by
  go_enter Try.func10, Try.ntmps10
  go_wp2_with fail
  exact bodyPost_ret (v := .agg #[.int .u32 7, .int .u16 80, .int .u32 ip, .int .u16 port]) (by simp [results, Try.results10, go_sem]) rfl ⟨rfl, (grew_alloc _ _).alloc _⟩
end Go.Proofs.Ytnpfbdekomhonaa
