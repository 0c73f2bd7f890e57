/- 'Accept' of the table. -/
import Derived.Test.YtnpfbdekomhonaaTab5
import Derived.RangeFuncLeaves
namespace Go.Proofs.Ytnpfbdekomhonaa
open Go.RowKit Stv

structure PairV where
  fip : Int
  fport : Int
  tip : Int
  tport : Int
def PairV.val (p : PairV) : Value := .agg #[.int .u32 p.fip, .int .u16 p.fport, .int .u32 p.tip, .int .u16 p.tport]
def childDesk (p : PairV) : DeskV := ⟨2, 3, ⟨0, 0, 0, false⟩, p.fip, p.fport, p.tip, p.tport, false, 0⟩

def acceptErr (most : Int) (F : List (Int × FileV)) (L : List (Int × (Nat × DeskV))) (d : DeskV) (id : Int) : Int :=
  if cond (d.is == 2) 3 = 0 then (if cond (decide (0 < id) && (mget L id).isNone) 2 = 0 then (if cond (decide ((F.length : Int) < most)) 291 = 0 then 0 else cond (decide ((F.length : Int) < most)) 291) else cond (decide (0 < id) && (mget L id).isNone) 2) else cond (d.is == 2) 3

section
variable {w : World} {t fm sm pp pm : Nat} {ownv : Value} {most last : Int} {own : List Int} {F : List (Int × FileV)} {L : List (Int × (Nat × DeskV))} {P : List (Int × Bnd)}

/-- the world at the call of 'asks' -/
def acceptW (w : World) (t : Nat) (a b c d id : Int) : World :=
  (((w.alloc (.cells #[.pointer (some ⟨t, 0, none⟩)] 26)).alloc (.cells #[.int .u32 a, .int .u16 b, .int .u32 c, .int .u16 d] 36)).alloc (.cells #[.int .u64 id] 30)).alloc
    (.cells #[.func (.func 30) #[] #[], .func (.func 32) #[] #[.pointer (some ⟨w.heap.size + 1 + 1, 0, none⟩), .pointer (some ⟨w.heap.size, 0, none⟩)], .func (.func 33) #[] #[.pointer (some ⟨w.heap.size, 0, none⟩)]] 88)

theorem acceptW_facts (w : World) (t : Nat) (a b c d id : Int) : Grew w (acceptW w t a b c d id) ∧
    (acceptW w t a b c d id).heap[w.heap.size]? = some (.cells #[.pointer (some ⟨t, 0, none⟩)] 26 (0, 0)) ∧
    (acceptW w t a b c d id).heap[w.heap.size + 1]? = some (.cells #[.int .u32 a, .int .u16 b, .int .u32 c, .int .u16 d] 36 (0, 0)) ∧
    (acceptW w t a b c d id).heap[w.heap.size + 1 + 1]? = some (.cells #[.int .u64 id] 30 (0, 0)) ∧
    (acceptW w t a b c d id).heap[w.heap.size + 1 + 1 + 1]? = some (.cells #[.func (.func 30) #[] #[], .func (.func 32) #[] #[.pointer (some ⟨w.heap.size + 1 + 1, 0, none⟩), .pointer (some ⟨w.heap.size, 0, none⟩)], .func (.func 33) #[] #[.pointer (some ⟨w.heap.size, 0, none⟩)]] 88 (0, 0)) := by
  unfold acceptW
  refine ⟨(((grew_alloc _ _).alloc _).alloc _).alloc _, ?_, ?_, ?_, ?_⟩
  · rw [Below.heap_alloc _ _ _ (by simp; omega), Below.heap_alloc _ _ _ (by simp; omega), Below.heap_alloc _ _ _ (by simp)]
    exact (MapKept.heap_alloc _ _).1
  · rw [Below.heap_alloc _ _ _ (by simp), Below.heap_alloc _ _ _ (by simp)]
    have := (MapKept.heap_alloc (w.alloc (.cells #[.pointer (some ⟨t, 0, none⟩)] 26)) (.cells #[.int .u32 a, .int .u16 b, .int .u32 c, .int .u16 d] 36)).1
    rwa [World.size_alloc] at this
  · rw [Below.heap_alloc _ _ _ (by simp)]
    have := (MapKept.heap_alloc ((w.alloc (.cells #[.pointer (some ⟨t, 0, none⟩)] 26)).alloc (.cells #[.int .u32 a, .int .u16 b, .int .u32 c, .int .u16 d] 36)) (.cells #[.int .u64 id] 30)).1
    rwa [World.size_alloc, World.size_alloc] at this
  · have := (MapKept.heap_alloc (((w.alloc (.cells #[.pointer (some ⟨t, 0, none⟩)] 26)).alloc (.cells #[.int .u32 a, .int .u16 b, .int .u32 c, .int .u16 d] 36)).alloc (.cells #[.int .u64 id] 30)) (.cells #[.func (.func 30) #[] #[], .func (.func 32) #[] #[.pointer (some ⟨w.heap.size + 1 + 1, 0, none⟩), .pointer (some ⟨w.heap.size, 0, none⟩)], .func (.func 33) #[] #[.pointer (some ⟨w.heap.size, 0, none⟩)]] 88)).1
    rwa [World.size_alloc, World.size_alloc, World.size_alloc] at this

theorem accept_asks (h : TabAt w t fm sm pp pm ownv most last own F L P) {fd : Int} (hfd : (Lit.int .i64 fd).wf = true) {f : FileV} (hf : mget F fd = some f) (hk : f.kind = 1) (hid : (Lit.int .u64 f.id).wf = true) {b : Nat} {d : DeskV} (hb : mget L f.id = some (b, d))
    {id : Int} (hid2 : (Lit.int .u64 id).wf = true) (p1 p2 p3 p4 : Int) :
    Calls Try.prog 29 #[.pointer (some ⟨t, 0, none⟩), .int .i64 fd, .slice (some ⟨w.heap.size + 1 + 1 + 1, 0, none⟩) 3 3] (acceptW w t p1 p2 p3 p4 id) (AskPost (acceptW w t p1 p2 p3 p4 id) f.id b (acceptErr most F L d id)) := by
  obtain ⟨hg, h0, h1, h2, h3⟩ := acceptW_facts w t p1 p2 p3 p4 id
  generalize acceptW w t p1 p2 p3 p4 id = W at *
  have hT := h.grew hg
  refine (asks_ok hT hfd hf hk hid hb (l := [⟨30, #[], cond (d.is == 2) 3⟩, ⟨32, #[.pointer (some ⟨w.heap.size + 1 + 1, 0, none⟩), .pointer (some ⟨w.heap.size, 0, none⟩)], cond (decide (0 < id) && (mget L id).isNone) 2⟩, ⟨33, #[.pointer (some ⟨w.heap.size, 0, none⟩)], cond (decide ((F.length : Int) < most)) 291⟩]) (q := w.heap.size + 1 + 1 + 1) (n := 3) (cap := 3) rfl (by simp) ?_ ?_ ?_)
  · intro i hi
    match i, hi with
    | 0, _ => exact cell_of h3 0
    | 1, _ => exact cell_of h3 1
    | 2, _ => exact cell_of h3 2
  · intro a ha
    simp only [List.mem_cons, List.not_mem_nil, or_false] at ha
    rcases ha with rfl | rfl | rfl
    · exact enters_of Try.func30 (by kernel_rfl) rfl
    · exact enters_of Try.func32 (by kernel_rfl) rfl
    · exact enters_of Try.func33 (by kernel_rfl) rfl
  · intro a ha w' hg'
    have hT' := hT.grew hg'
    have k : ∀ {j : Nat} {c : Array Value} {ty : TypeId}, W.heap[j]? = some (.cells c ty (0, 0)) → w'.heap[j]? = some (.cells c ty (0, 0)) := fun hj => (hg'.block _ (Array.getElem?_eq_some_iff.1 hj).1 fun h => h).trans hj
    simp only [List.mem_cons, List.not_mem_nil, or_false] at ha
    rcases ha with rfl | rfl | rfl
    · exact q_listens (hT'.desks _ (mget_mem hb))
    · exact q_id hT' hid2 _ (cell_of (k h2) 0) (cell_of (k h0) 0)
    · exact q_room hT' _ (cell_of (k h0) 0)

set_option maxRecDepth 100000 in
set_option maxHeartbeats 2000000 in
theorem accept_err (h : TabAt w t fm sm pp pm ownv most last own F L P) {fd : Int} (hfd : (Lit.int .i64 fd).wf = true) {f : FileV} (hf : mget F fd = some f) (hk : f.kind = 1) (hid : (Lit.int .u64 f.id).wf = true) {b : Nat} {d : DeskV} (hb : mget L f.id = some (b, d))
    {id : Int} (hid2 : (Lit.int .u64 id).wf = true) (p1 p2 p3 p4 : Int) {c : Int} (hc : acceptErr most F L d id = c) (hc0 : c ≠ 0) :
    Calls Try.prog 9 #[.pointer (some ⟨t, 0, none⟩), .int .i64 fd, .agg #[.int .u32 p1, .int .u16 p2, .int .u32 p3, .int .u16 p4], .int .u64 id] w fun e w' => e = .returned (.tuple #[.int .i64 0, .int .i64 c]) ∧ Grew w w' := by
  have hAsk := accept_asks h hfd hf hk hid hb hid2 p1 p2 p3 p4
  have hg := (acceptW_facts w t p1 p2 p3 p4 id).1
  rw [hc] at hAsk
  have HAsk := Lib.hid hAsk
  have HG := Lib.hid hg
  have hb1 : (c == 0) = false := beq_eq_false_iff_ne.2 hc0
  have hb2 : (c != 0) = true := by rw [bne, hb1]; rfl
  have HC := Lib.hid hc0
  clear h hf hb hAsk hg hc hc0
  go_enter Try.func9, Try.ntmps9
  go_wp2_with fail
  refine HAsk.out.mono ?_
  rintro e w1 ⟨he, hg1⟩
  rw [if_neg HC.out] at he
  subst he
  have HG1 := Lib.hid (HG.out.trans hg1)
  clear hg1
  go_wp2_with fail
  go_ret2
  exact ⟨rfl, HG1.out⟩

/-- what 'Accept' leaves, where a child is accepted -/
def AcceptPost (w : World) (t fm sm pp pm : Nat) (ownv : Value) (most last : Int) (own : List Int) (F : List (Int × FileV)) (L : List (Int × (Nat × DeskV))) (P : List (Int × Bnd)) (id : Int) (p : PairV) (e : Ending) (w' : World) : Prop :=
  e = .returned (.tuple #[.int .i64 (lfd F), .int .i64 0]) ∧ ∃ b, w.heap.size ≤ b ∧ TabAt w' t fm sm pp pm ownv most last own (mput F (lfd F) ⟨1, 2, id, false⟩) (L ++ [(id, b, childDesk p)]) P ∧ Off (fun k => k = t ∨ k = fm ∨ k = sm) w w'

set_option maxRecDepth 100000 in
set_option maxHeartbeats 4000000 in
theorem accept_ok (h : TabAt w t fm sm pp pm ownv most last own F L P) {fd : Int} (hfd : (Lit.int .i64 fd).wf = true) {f : FileV} (hf : mget F fd = some f) (hk : f.kind = 1) (hid : (Lit.int .u64 f.id).wf = true) {b : Nat} {d : DeskV} (hb : mget L f.id = some (b, d))
    {id : Int} (hid2 : (Lit.int .u64 id).wf = true) (p1 p2 p3 p4 : Int) (hc : acceptErr most F L d id = 0) (hn : mget L id = none) (hle : id ≤ last) (hF : F.length ≤ 1000000) :
    Calls Try.prog 9 #[.pointer (some ⟨t, 0, none⟩), .int .i64 fd, .agg #[.int .u32 p1, .int .u16 p2, .int .u32 p3, .int .u16 p4], .int .u64 id] w (AcceptPost w t fm sm pp pm ownv most last own F L P id ⟨p1, p2, p3, p4⟩) := by
  have hAsk := accept_asks h hfd hf hk hid hb hid2 p1 p2 p3 p4
  obtain ⟨hg, k0, k1, k2, _⟩ := acceptW_facts w t p1 p2 p3 p4 id
  rw [hc] at hAsk
  have HAsk := Lib.hid hAsk
  have HG := Lib.hid hg
  have HK := Lib.hid (And.intro k0 (And.intro k1 k2))
  have H := Lib.hid h
  have HN := Lib.hid hn
  clear h hf hb hAsk hg hc k0 k1 k2 hn
  go_enter Try.func9, Try.ntmps9
  go_wp2_with fail
  refine HAsk.out.mono ?_
  rintro e w1 ⟨he, hg1⟩
  rw [if_pos rfl] at he
  subst he
  have HG1 := Lib.hid (HG.out.trans hg1)
  have hT1 := H.out.grew HG1.out
  have kk : ∀ {j : Nat} {c : Array Value} {ty : TypeId}, (acceptW w t p1 p2 p3 p4 id).heap[j]? = some (.cells c ty (0, 0)) → w1.heap[j]? = some (.cells c ty (0, 0)) := fun hj => (hg1.block _ (Array.getElem?_eq_some_iff.1 hj).1 fun h => h).trans hj
  have r0 : w1.cell? ⟨w.heap.size, 0, none⟩ = some (.pointer (some ⟨t, 0, none⟩)) := cell_of (kk HK.out.1) 0
  have r1 : w1.cell? ⟨w.heap.size + 1, 0, none⟩ = some (.int .u32 p1) := cell_of (kk HK.out.2.1) 0
  have r2 : w1.cell? ⟨w.heap.size + 1, 1, none⟩ = some (.int .u16 p2) := cell_of (kk HK.out.2.1) 1
  have r3 : w1.cell? ⟨w.heap.size + 1, 2, none⟩ = some (.int .u32 p3) := cell_of (kk HK.out.2.1) 2
  have r4 : w1.cell? ⟨w.heap.size + 1, 3, none⟩ = some (.int .u16 p4) := cell_of (kk HK.out.2.1) 3
  have r5 : w1.cell? ⟨w.heap.size + 1 + 1, 0, none⟩ = some (.int .u64 id) := cell_of (kk HK.out.2.2) 0
  have g3 := hT1.c3
  obtain ⟨w4, hrun, hmap, hturn⟩ := ((hT1.grew (grew_alloc w1 (.cells (childDesk ⟨p1, p2, p3, p4⟩).cells 84))).socks.of_block (w' := (w1.alloc (.cells (childDesk ⟨p1, p2, p3, p4⟩).cells 84)).drew) rfl).update (t := 76) (e := 82) Try.underlying76 (k := id) hid2 (.pointer (some ⟨w1.heap.size, 0, none⟩))
  change (Instr.mapUpdate 76 (.map (some sm)) (.int .u64 id) (.pointer (some ⟨w1.heap.size, 0, none⟩))).run Try.prog _ = _ at hrun
  have h4 := (hT1.grew ((grew_alloc w1 (.cells (childDesk ⟨p1, p2, p3, p4⟩).cells 84)).drew)).newSock HN.out (b := w1.heap.size) (d := childDesk ⟨p1, p2, p3, p4⟩) (MapKept.heap_alloc w1 _).1 (fun e he => by have := (Array.getElem?_eq_some_iff.1 (hT1.desks e he)).1; omega) hmap hturn
  have HT4 := Lib.hid h4.1
  have HO4 : Hid (Off (fun k => k = sm) w w4) := Lib.hid (((HG1.out.trans ((grew_alloc w1 _).drew)).mono fun _ _ h => h.elim).trans h4.2)
  have HK4 : Hid (∀ j c, w1.heap[j]? = some (.cells c 26 (0, 0)) ∨ w1.heap[j]? = some (.cells c 30 (0, 0)) → w4.cell? ⟨j, 0, none⟩ = c[0]?) := Lib.hid fun j c hj => by
    have hlt : j < w1.heap.size := by rcases hj with h | h <;> exact (Array.getElem?_eq_some_iff.1 h).1
    have hne : j ≠ sm := by rcases hj with h | h <;> exact map_not_cells hT1.socks h
    have e1 : w4.heap[j]? = w1.heap[j]? := (turned_block hturn hne).trans (Below.heap_alloc _ _ _ hlt)
    rcases hj with h | h
    · exact cell_of (e1.trans h) 0
    · exact cell_of (e1.trans h) 0
  have b0 := HK4.out _ _ (.inl (kk HK.out.1))
  have b5 := HK4.out _ _ (.inr (kk HK.out.2.2))
  have HB := Lib.hid (And.intro b0 b5)
  simp only [childDesk, DeskV.cells] at hrun
  clear hg1 hT1 hmap hturn h4 kk b0 b5
  have hl0 : w.heap.size < w1.heap.size := World.block_lt_of_cell? _ _ r0
  have hl1 : w.heap.size + 1 < w1.heap.size := World.block_lt_of_cell? _ _ r1
  have hl2 : w.heap.size + 1 + 1 < w1.heap.size := World.block_lt_of_cell? _ _ r5
  have hlt : t < w1.heap.size := World.block_lt_of_cell? _ _ g3
  go_wp2_with fail
  go_region
  clear hrun r0 r1 r2 r3 r4 r5 g3 hl0 hl1 hl2 hlt
  obtain ⟨b0, b5⟩ := HB.out
  simp only [List.getElem?_toArray, List.getElem?_cons_zero] at b0 b5
  have g5 := HT4.out.c5
  have f5 := HT4.out.f 5
  have hnlt : ¬ last < id := by omega
  have HT5 := Lib.hid (And.intro ((HT4.out.setLast last).1.grew ((Off.refl (fun _ => False) _).drew)) (HT4.out.setLast last).2.drew)
  have HB5 : Hid (((w4.setCell ⟨t, 5, none⟩ (.int .u64 last)).drew).cell? ⟨w.heap.size, 0, none⟩ = some (.pointer (some ⟨t, 0, none⟩)) ∧ ((w4.setCell ⟨t, 5, none⟩ (.int .u64 last)).drew).cell? ⟨w.heap.size + 1 + 1, 0, none⟩ = some (.int .u64 id)) := Lib.hid (by
    have ht := H.out.lt
    change (w4.setCell ⟨t, 5, none⟩ (.int .u64 last)).cell? _ = _ ∧ (w4.setCell ⟨t, 5, none⟩ (.int .u64 last)).cell? _ = _
    rw [World.cell?_setCell_other _ _ _ _ (by simp), World.cell?_setCell_other _ _ _ _ (by simp)]
    exact ⟨b0, b5⟩)
  go_wp2_with fail
  go_region
  clear b0 b5 g5 f5 hnlt
  generalize (w4.setCell ⟨t, 5, none⟩ (.int .u64 last)).drew = w5 at *
  obtain ⟨b0, b5⟩ := HB5.out
  have HPuts : Hid (Calls Try.prog 34 #[.pointer (some ⟨t, 0, none⟩), .agg #[.int .u8 1, .int .u8 2, .int .u64 id, .bool false]] w5 fun e w' => e = .returned (.int .i64 (lfd F)) ∧ TabAt w' t fm sm pp pm ownv most last own (mput F (lfd F) ⟨1, 2, id, false⟩) (L ++ [(id, w1.heap.size, childDesk ⟨p1, p2, p3, p4⟩)]) P ∧ Off (fun k => k = t ∨ k = fm ∨ k = sm) w w') := Lib.hid ((puts_any HT5.out.1 hF ⟨1, 2, id, false⟩).mono fun e w' ⟨h1, h2, h3⟩ => ⟨h1, h2, by
    exact ((HO4.out.mono fun i _ hi => .inr (.inr hi)).trans (HT5.out.2.mono fun i _ hi => .inl hi)).trans (h3.mono fun i _ hi => .inr (.inl hi))⟩)
  go_wp2_with fail
  refine HPuts.out.mono ?_
  rintro e w6 ⟨rfl, hT, ho⟩
  have HFin := Lib.hid (And.intro hT ho)
  clear hT ho
  go_wp2_with fail
  go_ret2
  exact ⟨rfl, _, HG1.out.size, HFin.out.1, HFin.out.2⟩
end
end Go.Proofs.Ytnpfbdekomhonaa
