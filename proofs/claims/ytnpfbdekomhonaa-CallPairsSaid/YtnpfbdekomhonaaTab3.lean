/- 'Socket', 'Look', 'File', 'Desk' of the table. -/
import Derived.Test.YtnpfbdekomhonaaTab2
namespace Go.Proofs.Ytnpfbdekomhonaa
open Go.RowKit Stv

def desk0 (proto : Int) : DeskV := ⟨proto, 0, ⟨0, 0, 0, false⟩, 0, 0, 0, 0, false, 0⟩

theorem addc_socks {w w' : World} {t fm sm pp pm : Nat} {ownv : Value} {most last : Int} {own : List Int} {F : List (Int × FileV)} {L : List (Int × (Nat × DeskV))} {P : List (Int × Bnd)} (h : TabAt w t fm sm pp pm ownv most last own F L P)
    {id : Int} {d : DeskV} (hn : mget L id = none) (hm : MapIs KU w' sm (mput (vmap skPtr L) id (.pointer (some ⟨w.heap.size, 0, none⟩)))) (ht : (w.alloc (.cells d.cells 84)).mapTurned w' sm) :
    TabAt w' t fm sm pp pm ownv most last own F (L ++ [(id, w.heap.size, d)]) P ∧ Off (fun k => k = sm) w w' := by
  have h2 := h.grew (grew_alloc w (.cells d.cells 84))
  obtain ⟨a, b⟩ := h2.newSock hn (MapKept.heap_alloc w _).1 (fun e he => by have := (Array.getElem?_eq_some_iff.1 (h.desks e he)).1; omega) hm ht
  exact ⟨a, ((grew_alloc w _).mono fun _ _ h => h.elim).trans b⟩

section
variable {w : World} {t fm sm pp pm : Nat} {ownv : Value} {most last : Int} {own : List Int} {F : List (Int × FileV)} {L : List (Int × (Nat × DeskV))} {P : List (Int × Bnd)}

/-- what 'Socket' leaves, where there is room -/
def SockPost (w : World) (t fm sm pp pm : Nat) (ownv : Value) (most last : Int) (own : List Int) (F : List (Int × FileV)) (L : List (Int × (Nat × DeskV))) (P : List (Int × Bnd)) (proto : Int) (e : Ending) (w' : World) : Prop :=
  e = .returned (.tuple #[.int .i64 (lfd F), .int .u64 (last + 1), .int .i64 0]) ∧ ∃ b, w.heap.size ≤ b ∧ TabAt w' t fm sm pp pm ownv most (last + 1) own (mput F (lfd F) ⟨1, proto, last + 1, false⟩) (L ++ [(last + 1, b, desk0 proto)]) P ∧ Off (fun k => k = t ∨ k = fm ∨ k = sm) w w'

set_option maxRecDepth 100000 in
set_option maxHeartbeats 2000000 in
theorem socket_ok (h : TabAt w t fm sm pp pm ownv most last own F L P) (hm : F.length < most) (hm2 : most ≤ 1000000) (h0 : 0 ≤ last) (h1 : last ≤ 1000000) (hn : mget L (last + 1) = none) {proto : Int} (hp : proto = 1 ∨ proto = 2) :
    Calls Try.prog 8 #[.pointer (some ⟨t, 0, none⟩), .int .u8 proto] w (SockPost w t fm sm pp pm ownv most last own F L P proto) := by
  have m1 := fun w => run_eql_map_nil (P := Try.prog) w 75 3 42 (some fm) Try.underlying75
  have g2 := h.c2
  have HO := Lib.hid (opens_ok h hm hm2 h0 h1 1 proto 0 false)
  have HN := Lib.hid hn
  clear h hn
  rcases hp with rfl | rfl
  all_goals
    go_enter Try.func8, Try.ntmps8
    go_wp2_with fail
    refine HO.out.mono ?_
    rintro e w2 ⟨rfl, hT, ho⟩
    have HT := Lib.hid hT
    have HOff := Lib.hid ho
    have c3 := hT.c3
    clear hT ho
    go_wp2_with (at_mapUpdate; refine wpList_mput KU _ rfl _ _ _ 76 rfl 82 Try.underlying76 sm _ (last + 1) (.pointer (some ⟨w2.heap.size, 0, none⟩)) rfl rfl rfl (HT.out.grew (grew_alloc _ _)).socks (u64wf (by omega) (by omega)) ?_; intro w4 hm4 ht4; have HF := Lib.hid (addc_socks (d := desk0 _) HT.out HN.out hm4 ht4); clear hm4 ht4)
    go_ret3
    exact ⟨rfl, _, HOff.out.size, HF.out.1, (HOff.out.mono fun i _ hi => by rcases hi with h | h <;> simp [h]).trans (HF.out.2.mono fun i _ hi => .inr (.inr hi))⟩

set_option maxRecDepth 100000 in
set_option maxHeartbeats 2000000 in
theorem socket_full (h : TabAt w t fm sm pp pm ownv most last own F L P) (hm : most ≤ F.length) {proto : Int} (hp : proto = 1 ∨ proto = 2) :
    Calls Try.prog 8 #[.pointer (some ⟨t, 0, none⟩), .int .u8 proto] w fun e w' => e = .returned (.tuple #[.int .i64 0, .int .u64 0, .int .i64 291]) ∧ Grew w w' := by
  have m1 := fun w => run_eql_map_nil (P := Try.prog) w 75 3 42 (some fm) Try.underlying75
  have g2 := h.c2
  have HO := Lib.hid (fun p => opens_full h hm 1 p 0 false)
  clear h
  rcases hp with rfl | rfl
  all_goals
    go_enter Try.func8, Try.ntmps8
    go_wp2_with fail
    refine (HO.out _).mono ?_
    rintro e w2 ⟨rfl, hg⟩
    have HG := Lib.hid hg
    clear hg
    go_wp2_with fail
    go_ret3
    exact ⟨rfl, HG.out⟩

set_option maxRecDepth 100000 in
set_option maxHeartbeats 2000000 in
theorem socket_arg (h : TabAt w t fm sm pp pm ownv most last own F L P) {proto : Int} (h1 : proto ≠ 1) (h2 : proto ≠ 2) :
    Calls Try.prog 8 #[.pointer (some ⟨t, 0, none⟩), .int .u8 proto] w fun e w' => e = .returned (.tuple #[.int .i64 0, .int .u64 0, .int .i64 2]) ∧ Grew w w' := by
  have m1 := fun w => run_eql_map_nil (P := Try.prog) w 75 3 42 (some fm) Try.underlying75
  have g2 := h.c2
  have p1 : (proto == 1) = false := beq_eq_false_iff_ne.2 h1
  have p2 : (proto == 2) = false := beq_eq_false_iff_ne.2 h2
  have n1 := bne_of p1
  have n2 := bne_of p2
  clear h h1 h2
  go_enter Try.func8, Try.ntmps8
  go_wp2_with fail
  go_ret3
  exact ⟨rfl, Off.refl _ _⟩

set_option maxRecDepth 100000 in
set_option maxHeartbeats 2000000 in
theorem look_ok (h : TabAt w t fm sm pp pm ownv most last own F L P) (hm : F.length < most) (hm2 : most ≤ 1000000) (h0 : 0 ≤ last) (h1 : last ≤ 1000000) :
    Calls Try.prog 41 #[.pointer (some ⟨t, 0, none⟩)] w (OpenPost w t fm sm pp pm ownv most last own F L P ⟨2, 0, 0, false⟩) := by
  have m1 := fun w => run_eql_map_nil (P := Try.prog) w 75 3 42 (some fm) Try.underlying75
  have g2 := h.c2
  have HO := Lib.hid (opens_ok h hm hm2 h0 h1 2 0 0 false)
  clear h
  go_enter Try.func41, Try.ntmps41
  go_wp2_with fail
  refine HO.out.mono ?_
  rintro e w2 ⟨rfl, h⟩
  have HF := Lib.hid h
  clear h
  go_wp2_with fail
  go_ret3
  exact ⟨rfl, HF.out⟩

set_option maxRecDepth 100000 in
set_option maxHeartbeats 2000000 in
theorem look_full (h : TabAt w t fm sm pp pm ownv most last own F L P) (hm : most ≤ F.length) :
    Calls Try.prog 41 #[.pointer (some ⟨t, 0, none⟩)] w fun e w' => e = .returned (.tuple #[.int .i64 0, .int .u64 0, .int .i64 291]) ∧ Grew w w' := by
  have m1 := fun w => run_eql_map_nil (P := Try.prog) w 75 3 42 (some fm) Try.underlying75
  have g2 := h.c2
  have HO := Lib.hid (opens_full h hm 2 0 0 false)
  clear h
  go_enter Try.func41, Try.ntmps41
  go_wp2_with fail
  refine HO.out.mono ?_
  rintro e w2 ⟨rfl, h⟩
  have HF := Lib.hid h
  clear h
  go_wp2_with fail
  go_ret3
  exact ⟨rfl, HF.out⟩

set_option maxRecDepth 100000 in
set_option maxHeartbeats 2000000 in
theorem file_any (h : TabAt w t fm sm pp pm ownv most last own F L P) {fd : Int} (hfd : (Lit.int .i64 fd).wf = true) :
    Calls Try.prog 14 #[.pointer (some ⟨t, 0, none⟩), .int .i64 fd] w fun e w' => e = .returned (.tuple #[((mget F fd).getD ⟨0, 0, 0, false⟩).val, .bool (mget F fd).isSome]) ∧ Grew w w' := by
  have HT := h.grew (grew_alloc w (.cells #[.int .u8 0, .int .u8 0, .int .u64 0, .bool false] 42))
  have hlk := HT.files.look (t := 75) (e := 42) Try.underlying75 (k := fd) hfd (zero42 _) true
  rw [vmap_get] at hlk
  have g2 := HT.c2
  clear h HT
  cases hx : mget F fd with
  | none =>
    rw [hx] at hlk
    change (Instr.lookup 75 (.map (some fm)) (.int .i64 fd) true).run Try.prog _ = .ok (.tuple #[.agg #[.int .u8 0, .int .u8 0, .int .u64 0, .bool false], .bool false]) _ at hlk
    clear hx
    go_enter Try.func14, Try.ntmps14
    go_wp2_with fail
    exact bodyPost_ret (v := .tuple #[.agg #[.int .u8 0, .int .u8 0, .int .u64 0, .bool false], .bool false]) (by simp [results, Try.results14, go_sem]) rfl ⟨rfl, ((grew_alloc _ _).alloc _)⟩
  | some x =>
    obtain ⟨xk, xp, xi, xc⟩ := x
    rw [hx] at hlk
    change (Instr.lookup 75 (.map (some fm)) (.int .i64 fd) true).run Try.prog _ = .ok (.tuple #[.agg #[.int .u8 xk, .int .u8 xp, .int .u64 xi, .bool xc], .bool true]) _ at hlk
    clear hx
    go_enter Try.func14, Try.ntmps14
    go_wp2_with fail
    exact bodyPost_ret (v := .tuple #[.agg #[.int .u8 xk, .int .u8 xp, .int .u64 xi, .bool xc], .bool true]) (by simp [results, Try.results14, go_sem]) rfl ⟨rfl, ((grew_alloc _ _).alloc _)⟩

/-- a desk's value -/
def deskVal (d : DeskV) : Value := .agg #[.int .u8 d.proto, .int .u8 d.is, .int .u8 d.b.kind, .int .u32 d.b.ip, .int .u16 d.b.port, .bool d.b.share, .int .u32 d.fip, .int .u16 d.fport, .int .u32 d.tip, .int .u16 d.tport]

set_option maxRecDepth 100000 in
set_option maxHeartbeats 2000000 in
theorem desk_none (h : TabAt w t fm sm pp pm ownv most last own F L P) {id : Int} (hid : (Lit.int .u64 id).wf = true) (hx : mget L id = none) :
    Calls Try.prog 15 #[.pointer (some ⟨t, 0, none⟩), .int .u64 id] w fun e w' => e = .returned (.tuple #[deskVal (desk0 0), .bool false]) ∧ Grew w w' := by
  have hlk := fun o => (h.grew (grew_alloc w o)).socks.look_none (t := 76) (e := 82) Try.underlying76 (k := id) hid (by rw [vmap_get, hx]; rfl) (zero82 _) false
  change ∀ o, (Instr.lookup 76 (.map (some sm)) (.int .u64 id) false).run Try.prog (w.alloc o) = .ok (.pointer none) (w.alloc o) at hlk
  have g3 := h.c3
  have g4 := h.lt
  clear h hx
  go_enter Try.func15, Try.ntmps15
  go_wp2_with fail
  exact bodyPost_ret (v := .tuple #[deskVal (desk0 0), .bool false]) (by simp [results, Try.results15, go_sem, deskVal, desk0]) rfl ⟨rfl, grew_alloc _ _⟩

set_option maxRecDepth 100000 in
set_option maxHeartbeats 2000000 in
theorem desk_some (h : TabAt w t fm sm pp pm ownv most last own F L P) {id : Int} (hid : (Lit.int .u64 id).wf = true) {b : Nat} {d : DeskV} (hx : mget L id = some (b, d)) :
    Calls Try.prog 15 #[.pointer (some ⟨t, 0, none⟩), .int .u64 id] w fun e w' => e = .returned (.tuple #[deskVal d, .bool true]) ∧ Grew w w' := by
  have hlk := fun o => (h.grew (grew_alloc w o)).socks.look_some (t := 76) (e := 82) Try.underlying76 (k := id) hid (v := skPtr (b, d)) (by rw [vmap_get, hx]; rfl) false
  change ∀ o, (Instr.lookup 76 (.map (some sm)) (.int .u64 id) false).run Try.prog (w.alloc o) = .ok (.pointer (some ⟨b, 0, none⟩)) (w.alloc o) at hlk
  have g3 := h.c3
  have g4 := h.lt
  have hd := h.desks _ (mget_mem hx)
  have hbl : b < w.heap.size := (Array.getElem?_eq_some_iff.1 hd).1
  simp only [DeskV.cells] at hd
  have d0 : w.cell? ⟨b, 0, none⟩ = some (.int .u8 d.proto) := cell_of hd 0
  have d1 : w.cell? ⟨b, 1, none⟩ = some (.int .u8 d.is) := cell_of hd 1
  have d2 : w.cell? ⟨b, 2, none⟩ = some (.int .u8 d.b.kind) := cell_of hd 2
  have d3 : w.cell? ⟨b, 3, none⟩ = some (.int .u32 d.b.ip) := cell_of hd 3
  have d4 : w.cell? ⟨b, 4, none⟩ = some (.int .u16 d.b.port) := cell_of hd 4
  have d5 : w.cell? ⟨b, 5, none⟩ = some (.bool d.b.share) := cell_of hd 5
  have d6 : w.cell? ⟨b, 6, none⟩ = some (.int .u32 d.fip) := cell_of hd 6
  have d7 : w.cell? ⟨b, 7, none⟩ = some (.int .u16 d.fport) := cell_of hd 7
  have d8 : w.cell? ⟨b, 8, none⟩ = some (.int .u32 d.tip) := cell_of hd 8
  have d9 : w.cell? ⟨b, 9, none⟩ = some (.int .u16 d.tport) := cell_of hd 9
  clear h hx hd
  go_enter Try.func15, Try.ntmps15
  go_wp2_with fail
  exact bodyPost_ret (v := .tuple #[deskVal d, .bool true]) (by simp [results, Try.results15, go_sem, deskVal]) rfl ⟨rfl, grew_alloc _ _⟩
end
end Go.Proofs.Ytnpfbdekomhonaa
