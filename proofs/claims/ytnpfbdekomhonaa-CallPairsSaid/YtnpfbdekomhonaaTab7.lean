/- 'Bind' of the table. -/
import Derived.Test.YtnpfbdekomhonaaTab6
namespace Go.Proofs.Ytnpfbdekomhonaa
open Go.RowKit Stv

theorem cells_set {w : World} {b : Nat} {c : Array Value} {t : TypeId} (h : w.heap[b]? = some (.cells c t (0, 0))) (i : Nat) (v : Value) : (w.setCell ⟨b, i, none⟩ v).heap[b]? = some (.cells (c.setIfInBounds i v) t (0, 0)) := by
  simp only [World.setCell, Array.getElem?_modify, if_true, h, Option.map_some, Option.isSome_none, Bool.false_eq_true, if_false]

theorem drew_heap (w : World) : w.drew.heap = w.heap := rfl

theorem desk_bound {w : World} {b : Nat} {d : DeskV} (h : w.heap[b]? = some (.cells d.cells 84 (0, 0))) (k ip port : Int) (s : Bool) (i : Int) :
    (((((w.setCell ⟨b, 1, none⟩ (.int .u8 i)).setCell ⟨b, 2, none⟩ (.int .u8 k)).setCell ⟨b, 3, none⟩ (.int .u32 ip)).setCell ⟨b, 4, none⟩ (.int .u16 port)).setCell ⟨b, 5, none⟩ (.bool s)).drew.heap[b]? = some (.cells { d with is := i, b := ⟨k, ip, port, s⟩ : DeskV }.cells 84 (0, 0)) ∧
    Off (fun k => k = b) w (((((w.setCell ⟨b, 1, none⟩ (.int .u8 i)).setCell ⟨b, 2, none⟩ (.int .u8 k)).setCell ⟨b, 3, none⟩ (.int .u32 ip)).setCell ⟨b, 4, none⟩ (.int .u16 port)).setCell ⟨b, 5, none⟩ (.bool s)).drew :=
  have h5 := cells_set (cells_set (cells_set (cells_set (cells_set h 1 (.int .u8 i)) 2 (.int .u8 k)) 3 (.int .u32 ip)) 4 (.int .u16 port)) 5 (.bool s)
  have e : ((((d.cells.setIfInBounds 1 (.int .u8 i)).setIfInBounds 2 (.int .u8 k)).setIfInBounds 3 (.int .u32 ip)).setIfInBounds 4 (.int .u16 port)).setIfInBounds 5 (.bool s) = { d with is := i, b := ⟨k, ip, port, s⟩ : DeskV }.cells := by simp [DeskV.cells]
  ⟨by rw [e] at h5; rw [drew_heap]; exact h5,
    ((((((Off.refl (fun k => k = b) w).setCell (p := ⟨b, 1, none⟩) (.inl rfl) _).setCell (p := ⟨b, 2, none⟩) (.inl rfl) _).setCell (p := ⟨b, 3, none⟩) (.inl rfl) _).setCell (p := ⟨b, 4, none⟩) (.inl rfl) _).setCell (p := ⟨b, 5, none⟩) (.inl rfl) _).drew⟩

section
variable {w : World} {t fm sm pp pm : Nat} {ownv : Value} {most last : Int} {own : List Int} {F : List (Int × FileV)} {L : List (Int × (Nat × DeskV))} {P : List (Int × Bnd)}

def placeOk (own : List Int) (ip port : Int) : Bool := (ip == 0 || own.any (· == ip)) && decide (0 < port)

set_option maxRecDepth 100000 in
set_option maxHeartbeats 2000000 in
/-- 'Bind': is it a place that may be? -/
theorem q_place (h : TabAt w t fm sm pp pm ownv most last own F L P) (hl : own.length ≤ 1000000) (b : Option Addr) {B1 B2 : Nat} {ip port : Int} (h0 : w.cell? ⟨B1, 0, none⟩ = some (.int .u32 ip)) (h1 : w.cell? ⟨B1, 1, none⟩ = some (.int .u16 port)) (h2 : w.cell? ⟨B2, 0, none⟩ = some (.pointer (some ⟨t, 0, none⟩))) :
    Calls Try.prog 36 #[.pointer b, .pointer (some ⟨B1, 0, none⟩), .pointer (some ⟨B2, 0, none⟩)] w fun e w' => e = .returned (.int .i64 (cond (placeOk own ip port) 2)) ∧ Grew w w' := by
  have g1 := h.c1
  have HC := Lib.hid fun n => contains_any (h.grew ((Off.refl (fun _ => False) w).drewN n)).own hl ip
  unfold placeOk
  by_cases hi : ip = 0
  · have hi1 : (ip == 0) = true := beq_iff_eq.2 hi
    clear h hi
    go_enter Try.func36, Try.ntmps36
    go_wp2_with fail
    go_quiet ((go_at_call 31; exact Calls.quiet_of_same (unless_any _ _ _)))
    go_wp2_with fail
    go_ret
    exact ⟨by first | rfl | (rw [hi1]; rfl), (Off.refl _ _).drewN _⟩
  · have hi1 : (ip == 0) = false := beq_eq_false_iff_ne.2 hi
    cases hc : own.any (· == ip) with
    | true =>
      have HC2 := HC.out
      rw [hc] at HC2
      have HC3 := Lib.hid HC2
      clear h hi HC HC2 hc
      go_enter Try.func36, Try.ntmps36
      go_wp2_with fail
      go_quiet ((first | (go_at_call 25; exact Calls.quiet_of_same (HC3.out _)) | (go_at_call 31; exact Calls.quiet_of_same (unless_any _ _ _))))
      go_wp2_with fail
      go_ret
      exact ⟨by first | rfl | (rw [hi1]; rfl), (Off.refl _ _).drewN _⟩
    | false =>
      have HC2 := HC.out
      rw [hc] at HC2
      have HC3 := Lib.hid HC2
      clear h hi HC HC2 hc
      go_enter Try.func36, Try.ntmps36
      go_wp2_with fail
      go_quiet ((first | (go_at_call 25; exact Calls.quiet_of_same (HC3.out _)) | (go_at_call 31; exact Calls.quiet_of_same (unless_any _ _ _))))
      go_wp2_with fail
      go_ret
      exact ⟨by first | rfl | (rw [hi1]; rfl), (Off.refl _ _).drewN _⟩

/-- the world at the call of 'asks' -/
def bindW (w : World) (t : Nat) (ip port : Int) : World :=
  ((w.alloc (.cells #[.pointer (some ⟨t, 0, none⟩)] 26)).alloc (.cells #[.int .u32 ip, .int .u16 port] 25)).alloc
    (.cells #[.func (.func 35) #[] #[], .func (.func 36) #[] #[.pointer (some ⟨w.heap.size + 1, 0, none⟩), .pointer (some ⟨w.heap.size, 0, none⟩)]] 88)

theorem bindW_facts (w : World) (t : Nat) (ip port : Int) : Grew w (bindW w t ip port) ∧
    (bindW w t ip port).heap[w.heap.size]? = some (.cells #[.pointer (some ⟨t, 0, none⟩)] 26 (0, 0)) ∧
    (bindW w t ip port).heap[w.heap.size + 1]? = some (.cells #[.int .u32 ip, .int .u16 port] 25 (0, 0)) ∧
    (bindW w t ip port).heap[w.heap.size + 1 + 1]? = some (.cells #[.func (.func 35) #[] #[], .func (.func 36) #[] #[.pointer (some ⟨w.heap.size + 1, 0, none⟩), .pointer (some ⟨w.heap.size, 0, none⟩)]] 88 (0, 0)) := by
  unfold bindW
  refine ⟨((grew_alloc _ _).alloc _).alloc _, ?_, ?_, ?_⟩
  · rw [Below.heap_alloc _ _ _ (by simp; omega), Below.heap_alloc _ _ _ (by simp)]
    exact (MapKept.heap_alloc _ _).1
  · rw [Below.heap_alloc _ _ _ (by simp)]
    have := (MapKept.heap_alloc (w.alloc (.cells #[.pointer (some ⟨t, 0, none⟩)] 26)) (.cells #[.int .u32 ip, .int .u16 port] 25)).1
    rwa [World.size_alloc] at this
  · have := (MapKept.heap_alloc ((w.alloc (.cells #[.pointer (some ⟨t, 0, none⟩)] 26)).alloc (.cells #[.int .u32 ip, .int .u16 port] 25)) (.cells #[.func (.func 35) #[] #[], .func (.func 36) #[] #[.pointer (some ⟨w.heap.size + 1, 0, none⟩), .pointer (some ⟨w.heap.size, 0, none⟩)]] 88)).1
    rwa [World.size_alloc, World.size_alloc] at this

def bindAsk (own : List Int) (d : DeskV) (ip port : Int) : Int := if cond (d.is == 0) 3 = 0 then (if cond (placeOk own ip port) 2 = 0 then 0 else cond (placeOk own ip port) 2) else cond (d.is == 0) 3

theorem bind_asks (h : TabAt w t fm sm pp pm ownv most last own F L P) (hl : own.length ≤ 1000000) {fd : Int} (hfd : (Lit.int .i64 fd).wf = true) {f : FileV} (hf : mget F fd = some f) (hk : f.kind = 1) (hid : (Lit.int .u64 f.id).wf = true) {b : Nat} {d : DeskV} (hb : mget L f.id = some (b, d)) (ip port : Int) :
    Calls Try.prog 29 #[.pointer (some ⟨t, 0, none⟩), .int .i64 fd, .slice (some ⟨w.heap.size + 1 + 1, 0, none⟩) 2 2] (bindW w t ip port) (AskPost (bindW w t ip port) f.id b (bindAsk own d ip port)) := by
  obtain ⟨hg, h0, h1, h2⟩ := bindW_facts w t ip port
  generalize bindW w t ip port = W at *
  have hT := h.grew hg
  refine (asks_ok hT hfd hf hk hid hb (l := [⟨35, #[], cond (d.is == 0) 3⟩, ⟨36, #[.pointer (some ⟨w.heap.size + 1, 0, none⟩), .pointer (some ⟨w.heap.size, 0, none⟩)], cond (placeOk own ip port) 2⟩]) (q := w.heap.size + 1 + 1) (n := 2) (cap := 2) rfl (by simp) ?_ ?_ ?_)
  · intro i hi
    match i, hi with
    | 0, _ => exact cell_of h2 0
    | 1, _ => exact cell_of h2 1
  · intro a ha
    simp only [List.mem_cons, List.not_mem_nil, or_false] at ha
    rcases ha with rfl | rfl
    · exact enters_of Try.func35 (by kernel_rfl) rfl
    · exact enters_of Try.func36 (by kernel_rfl) rfl
  · intro a ha w' hg'
    have hT' := hT.grew hg'
    have k : ∀ {j : Nat} {c : Array Value} {ty : TypeId}, W.heap[j]? = some (.cells c ty (0, 0)) → w'.heap[j]? = some (.cells c ty (0, 0)) := fun hj => (hg'.block _ (Array.getElem?_eq_some_iff.1 hj).1 fun h => h).trans hj
    simp only [List.mem_cons, List.not_mem_nil, or_false] at ha
    rcases ha with rfl | rfl
    · exact q_fresh (hT'.desks _ (mget_mem hb))
    · exact q_place hT' hl _ (cell_of (k h1) 0) (cell_of (k h1) 1) (cell_of (k h0) 0)

set_option maxRecDepth 100000 in
set_option maxHeartbeats 2000000 in
theorem tbind_err (h : TabAt w t fm sm pp pm ownv most last own F L P) (hl : own.length ≤ 1000000) {fd : Int} (hfd : (Lit.int .i64 fd).wf = true) {f : FileV} (hf : mget F fd = some f) (hk : f.kind = 1) (hid : (Lit.int .u64 f.id).wf = true) {b : Nat} {d : DeskV} (hb : mget L f.id = some (b, d)) (ip port : Int)
    {c : Int} (hc : bindAsk own d ip port = c) (hc0 : c ≠ 0) :
    Calls Try.prog 12 #[.pointer (some ⟨t, 0, none⟩), .int .i64 fd, .agg #[.int .u32 ip, .int .u16 port]] w fun e w' => e = .returned (.int .i64 c) ∧ Grew w w' := by
  have hAsk := bind_asks h hl hfd hf hk hid hb ip port
  have hg := (bindW_facts w t ip port).1
  rw [hc] at hAsk
  have HAsk := Lib.hid hAsk
  have HG := Lib.hid hg
  have hb1 : (c == 0) = false := beq_eq_false_iff_ne.2 hc0
  have hb2 : (c != 0) = true := by rw [bne, hb1]; rfl
  have HC := Lib.hid hc0
  clear h hf hb hAsk hg hc hc0
  go_enter Try.func12, Try.ntmps12
  go_wp2_with fail
  refine HAsk.out.mono ?_
  rintro e w1 ⟨he, hg1⟩
  rw [if_neg HC.out] at he
  subst he
  have HG1 := Lib.hid (HG.out.trans hg1)
  clear hg1
  go_wp2_with fail
  go_ret
  exact ⟨rfl, HG1.out⟩

/-- what 'Bind' leaves, where the questions are answered -/
def TBindPost (w : World) (t fm sm pp pm : Nat) (ownv : Value) (most last : Int) (own : List Int) (F : List (Int × FileV)) (L : List (Int × (Nat × DeskV))) (P : List (Int × Bnd)) (id : Int) (b : Nat) (d : DeskV) (bd : Bnd) (e : Ending) (w' : World) : Prop :=
  e = .returned (.int .i64 (bindErr P id bd)) ∧ TabAt w' t fm sm pp pm ownv most last own F (if bindErr P id bd = 0 then mput L id (b, { d with is := 1, b := bd }) else L) (if bindErr P id bd = 0 then mput P id bd else P) ∧ Off (fun k => k = pm ∨ k = b) w w'

set_option maxRecDepth 100000 in
set_option maxHeartbeats 4000000 in
theorem tbind_go (h : TabAt w t fm sm pp pm ownv most last own F L P) (hl : own.length ≤ 1000000) {fd : Int} (hfd : (Lit.int .i64 fd).wf = true) {f : FileV} (hf : mget F fd = some f) (hk : f.kind = 1) (hid : (Lit.int .u64 f.id).wf = true) {b : Nat} {d : DeskV} (hb : mget L f.id = some (b, d)) (ip port : Int)
    (hc : bindAsk own d ip port = 0) (hp : d.proto = 1 ∨ d.proto = 2) (hport : port ≠ 0) :
    Calls Try.prog 12 #[.pointer (some ⟨t, 0, none⟩), .int .i64 fd, .agg #[.int .u32 ip, .int .u16 port]] w (TBindPost w t fm sm pp pm ownv most last own F L P f.id b d ⟨d.proto, ip, port, d.share⟩) := by
  have hAsk := bind_asks h hl hfd hf hk hid hb ip port
  obtain ⟨hg, k0, k1, _⟩ := bindW_facts w t ip port
  rw [hc] at hAsk
  have HAsk := Lib.hid hAsk
  have HG := Lib.hid hg
  have HK := Lib.hid (And.intro k0 k1)
  have H := Lib.hid h
  have HB := Lib.hid hb
  obtain ⟨fk, fp, fi, fc⟩ := f
  simp only at hid hb hk HB HAsk ⊢
  clear h hf hb hAsk hg hc k0 k1
  go_enter Try.func12, Try.ntmps12
  go_wp2_with fail
  refine HAsk.out.mono ?_
  rintro e w1 ⟨he, hg1⟩
  rw [if_pos rfl] at he
  subst he
  have HG1 := Lib.hid (HG.out.trans hg1)
  have hT1 := H.out.grew HG1.out
  have kk : ∀ {j : Nat} {c : Array Value} {ty : TypeId}, (bindW w t ip port).heap[j]? = some (.cells c ty (0, 0)) → w1.heap[j]? = some (.cells c ty (0, 0)) := fun hj => (hg1.block _ (Array.getElem?_eq_some_iff.1 hj).1 fun h => h).trans hj
  have r0 : w1.cell? ⟨w.heap.size, 0, none⟩ = some (.pointer (some ⟨t, 0, none⟩)) := cell_of (kk HK.out.1) 0
  have r1 : w1.cell? ⟨w.heap.size + 1, 0, none⟩ = some (.int .u32 ip) := cell_of (kk HK.out.2) 0
  have r2 : w1.cell? ⟨w.heap.size + 1, 1, none⟩ = some (.int .u16 port) := cell_of (kk HK.out.2) 1
  have hd := hT1.desks _ (mget_mem HB.out)
  simp only [DeskV.cells] at hd
  have d0 : w1.cell? ⟨b, 0, none⟩ = some (.int .u8 d.proto) := cell_of hd 0
  have d10 : w1.cell? ⟨b, 10, none⟩ = some (.bool d.share) := cell_of hd 10
  have HT1 := Lib.hid hT1
  have HD := Lib.hid hd
  have hl0 : w.heap.size < w1.heap.size := World.block_lt_of_cell? _ _ r0
  have hl1 : w.heap.size + 1 < w1.heap.size := World.block_lt_of_cell? _ _ r1
  have hlb : b < w1.heap.size := World.block_lt_of_cell? _ _ d0
  clear hg1 hT1 kk hd
  go_wp2_with fail
  go_region
  have hbx : (w1.alloc (.cells #[.int .u8 d.proto, .int .u32 ip, .int .u16 port, .bool d.share] 46)).drew.heap[w1.heap.size]? = some (.cells #[.int .u8 d.proto, .int .u32 ip, .int .u16 port, .bool d.share] 46 (0, 0)) := (MapKept.heap_alloc w1 _).1
  have HT2 := Lib.hid (HT1.out.grew ((grew_alloc w1 (.cells #[.int .u8 d.proto, .int .u32 ip, .int .u16 port, .bool d.share] 46)).drew))
  have HG2 := Lib.hid (HG1.out.trans ((grew_alloc w1 (.cells #[.int .u8 d.proto, .int .u32 ip, .int .u16 port, .bool d.share] 46)).drew))
  have b0 : (w1.alloc (.cells #[.int .u8 d.proto, .int .u32 ip, .int .u16 port, .bool d.share] 46)).drew.cell? ⟨w.heap.size, 0, none⟩ = some (.pointer (some ⟨t, 0, none⟩)) := by
    rw [((grew_alloc w1 _).drew).cell (p := ⟨w.heap.size, 0, none⟩) hl0 fun h => h]; exact r0
  have hd2 : (w1.alloc (.cells #[.int .u8 d.proto, .int .u32 ip, .int .u16 port, .bool d.share] 46)).drew.heap[b]? = some (.cells d.cells 84 (0, 0)) := (((grew_alloc w1 _).drew).block b hlb fun h => h).trans HD.out
  have hbn : w1.heap.size ≠ b := by omega
  have hwb : w.heap.size ≤ w1.heap.size := HG1.out.size
  clear r0 r1 r2 d0 d10 HD HT1 hlb hl0 hl1
  generalize (w1.alloc (.cells #[.int .u8 d.proto, .int .u32 ip, .int .u16 port, .bool d.share] 46)).drew = w2 at *
  have x0 := cell_of hbx 0
  have x1 := cell_of hbx 1
  have x2 := cell_of hbx 2
  have x3 := cell_of hbx 3
  simp only [List.getElem?_toArray, List.getElem?_cons_zero, List.getElem?_cons_succ] at x0 x1 x2 x3
  have c4 := HT2.out.c4
  have hpm : b ≠ pm := map_not_cells HT2.out.ports.map hd2
  have hxm : w1.heap.size ≠ pm := map_not_cells HT2.out.ports.map hbx
  have hbind := bind_any (HT2.out.grew ((Off.refl (fun _ => False) w2).drew)).ports hid (b := ⟨d.proto, ip, port, d.share⟩) hp hport
  have HBind : Hid (Calls Try.prog 37 #[.pointer (some ⟨pp, 0, none⟩), .int .u64 fi, .agg #[.int .u8 d.proto, .int .u32 ip, .int .u16 port, .bool d.share]] w2.drew fun e w' => e = .returned (.int .i64 (bindErr P fi ⟨d.proto, ip, port, d.share⟩)) ∧
      (TabAt w' t fm sm pp pm ownv most last own F L (if bindErr P fi ⟨d.proto, ip, port, d.share⟩ = 0 then mput P fi ⟨d.proto, ip, port, d.share⟩ else P) ∧ Off (fun k => k = pm) w w') ∧ w'.heap[w1.heap.size]? = some (.cells #[.int .u8 d.proto, .int .u32 ip, .int .u16 port, .bool d.share] 46 (0, 0)) ∧ w'.heap[b]? = some (.cells d.cells 84 (0, 0))) := by
    refine Lib.hid (hbind.mono fun e w' ⟨h1, h2, h3⟩ => ⟨h1, ⟨(HT2.out.grew ((Off.refl (fun _ => False) w2).drew)).turnPorts h3 h2, (HG2.out.drew.mono fun _ _ h => h.elim).trans h3⟩, ?_, ?_⟩)
    · exact (h3.block _ (Array.getElem?_eq_some_iff.1 hbx).1 hxm).trans hbx
    · exact (h3.block _ (Array.getElem?_eq_some_iff.1 hd2).1 hpm).trans hd2
  have HX := Lib.hid (And.intro hbn (And.intro hpm (And.intro hxm hwb)))
  clear hbind hbx hd2 hbn hpm hxm hwb hport
  by_cases hz : bindErr P fi ⟨d.proto, ip, port, d.share⟩ = 0
  · have HZ := Lib.hid hz
    rw [hz] at HBind
    clear hz
    go_wp2_with fail
    go_region_law (go_simp; go_at_call 37; refine HBind.out.mono ?_; rintro e w4 ⟨rfl, hT, hx, hb⟩; have HT4 := Lib.hid hT; have HX4 := Lib.hid hx; have HB4 := Lib.hid hb; clear hT hx hb)
    all_goals
      go_wp2_with fail
      have hx4 := HX4.out
      have hb4 := HB4.out
      have y0 := cell_of hx4 0
      have y1 := cell_of hx4 1
      have y2 := cell_of hx4 2
      have y3 := cell_of hx4 3
      simp only [List.getElem?_toArray, List.getElem?_cons_zero, List.getElem?_cons_succ] at y0 y1 y2 y3
      have hb5 := hb4
      simp only [DeskV.cells] at hb5
      have e1 : w4.cell? ⟨b, 1, none⟩ = some (.int .u8 d.is) := cell_of hb5 1
      have e2 : w4.cell? ⟨b, 2, none⟩ = some (.int .u8 d.b.kind) := cell_of hb5 2
      have e3 : w4.cell? ⟨b, 3, none⟩ = some (.int .u32 d.b.ip) := cell_of hb5 3
      have e4 : w4.cell? ⟨b, 4, none⟩ = some (.int .u16 d.b.port) := cell_of hb5 4
      have e5 : w4.cell? ⟨b, 5, none⟩ = some (.bool d.b.share) := cell_of hb5 5
      have q1 := frozen_of hb4 1
      have q2 := frozen_of hb4 2
      have q3 := frozen_of hb4 3
      have q4 := frozen_of hb4 4
      have q5 := frozen_of hb4 5
      have n1 : ¬ w1.heap.size = b := HX.out.1
      have n2 : ¬ b = w1.heap.size := fun e => HX.out.1 e.symm
      clear hx4 hb4 hb5
      go_region
      clear y0 y1 y2 y3 e1 e2 e3 e4 e5 q1 q2 q3 q4 q5
      have HF := Lib.hid (desk_bound HB4.out d.proto ip port d.share 1)
      generalize (((((w4.setCell ⟨b, 1, none⟩ (.int .u8 1)).setCell ⟨b, 2, none⟩ (.int .u8 d.proto)).setCell ⟨b, 3, none⟩ (.int .u32 ip)).setCell ⟨b, 4, none⟩ (.int .u16 port)).setCell ⟨b, 5, none⟩ (.bool d.share)).drew = w5 at *
      go_wp2_with fail
      go_ret
      refine ⟨by rw [HZ.out]; rfl, ?_, (HT4.out.2.mono fun i _ hi => .inl hi).trans (HF.out.2.mono fun i _ hi => .inr hi)⟩
      have h := HT4.out.1
      rw [if_pos trivial] at h
      rw [HZ.out, if_pos rfl, if_pos rfl]
      exact h.setDesk HB.out HF.out.2 HF.out.1
  · have HZ := Lib.hid hz
    have hz1 : (bindErr P fi ⟨d.proto, ip, port, d.share⟩ == 0) = false := beq_eq_false_iff_ne.2 hz
    clear hz
    obtain ⟨z, hzz⟩ : ∃ z, bindErr P fi ⟨d.proto, ip, port, d.share⟩ = z := ⟨_, rfl⟩
    rw [hzz] at hz1 HBind
    have HZZ := Lib.hid hzz
    clear hzz
    go_wp2_with fail
    go_region_law (go_simp; go_at_call 37; refine HBind.out.mono ?_; rintro e w4 ⟨rfl, hT, hx, hb⟩; have HT4 := Lib.hid hT; clear hT hx hb)
    all_goals go_wp2_with fail
    all_goals go_ret
    all_goals
      refine ⟨by rw [HZZ.out]; rfl, ?_, HT4.out.2.mono fun i _ hi => .inl hi⟩
      have h := HT4.out.1
      rw [HZZ.out] at ⊢
      have hz0 := HZ.out
      rw [HZZ.out] at hz0
      rw [if_neg hz0] at h
      rw [if_neg hz0, if_neg hz0]
      exact h
end
end Go.Proofs.Ytnpfbdekomhonaa
