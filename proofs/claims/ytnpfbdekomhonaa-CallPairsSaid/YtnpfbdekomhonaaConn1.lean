/- 'Connect' of the table: its questions. -/
import Derived.Test.YtnpfbdekomhonaaTab6
namespace Go.Proofs.Ytnpfbdekomhonaa
open Go.RowKit Stv

theorem cells_upd {w : World} {b : Nat} {c : Array Value} {t : TypeId} (h : w.heap[b]? = some (.cells c t (0, 0))) (i : Nat) (v : Value) : (w.setCell ⟨b, i, none⟩ v).heap[b]? = some (.cells (c.setIfInBounds i v) t (0, 0)) := by
  simp only [World.setCell, Array.getElem?_modify, if_true, h, Option.map_some, Option.isSome_none, Bool.false_eq_true, if_false]
theorem pair_set {w : World} {q : Nat} {x0 x1 x2 x3 : Value} (h : w.heap[q]? = some (.cells #[x0, x1, x2, x3] 36 (0, 0))) (v0 v1 v2 v3 : Value) :
    ((((w.setCell ⟨q, 0, none⟩ v0).setCell ⟨q, 1, none⟩ v1).setCell ⟨q, 2, none⟩ v2).setCell ⟨q, 3, none⟩ v3).heap[q]? = some (.cells #[v0, v1, v2, v3] 36 (0, 0)) := by
  have h4 := cells_upd (cells_upd (cells_upd (cells_upd h 0 v0) 1 v1) 2 v2) 3 v3
  have e : (((((#[x0, x1, x2, x3] : Array Value).setIfInBounds 0 v0).setIfInBounds 1 v1).setIfInBounds 2 v2).setIfInBounds 3 v3) = #[v0, v1, v2, v3] := by simp
  rw [e] at h4; exact h4
theorem pair_off {S : Nat → Prop} {w0 w : World} {q : Nat} (h : Off S w0 w) (hq : S q) (v0 v1 v2 v3 : Value) : Off S w0 ((((w.setCell ⟨q, 0, none⟩ v0).setCell ⟨q, 1, none⟩ v1).setCell ⟨q, 2, none⟩ v2).setCell ⟨q, 3, none⟩ v3) :=
  (((h.setCell (p := ⟨q, 0, none⟩) (.inl hq) _).setCell (p := ⟨q, 1, none⟩) (.inl hq) _).setCell (p := ⟨q, 2, none⟩) (.inl hq) _).setCell (p := ⟨q, 3, none⟩) (.inl hq) _
theorem pair_cells {w : World} {q : Nat} {x0 x1 x2 x3 : Value} (h : w.heap[q]? = some (.cells #[x0, x1, x2, x3] 36 (0, 0))) :
    w.cell? ⟨q, 0, none⟩ = some x0 ∧ w.cell? ⟨q, 1, none⟩ = some x1 ∧ w.cell? ⟨q, 2, none⟩ = some x2 ∧ w.cell? ⟨q, 3, none⟩ = some x3 :=
  ⟨cell_of h 0, cell_of h 1, cell_of h 2, cell_of h 3⟩

section
variable {w : World} {b : Nat} {d : DeskV}
theorem q_nolisten (hd : w.heap[b]? = some (.cells d.cells 84 (0, 0))) : Calls Try.prog 43 #[.pointer (some ⟨b, 0, none⟩)] w fun e w' => e = .returned (.int .i64 (cond (d.is != 2) 3)) ∧ Grew w w' := by
  simp only [DeskV.cells] at hd
  have d1 : w.cell? ⟨b, 1, none⟩ = some (.int .u8 d.is) := cell_of hd 1
  clear hd
  generalize d.is = i at *
  go_enter Try.func43, Try.ntmps43
  go_wp2_with fail
  refine (unless_any _ _ _).mono ?_
  rintro e w' ⟨rfl, rfl⟩
  go_wp2_with fail
  go_ret
  exact ⟨rfl, Off.refl _ _⟩
theorem q_again (hd : w.heap[b]? = some (.cells d.cells 84 (0, 0))) : Calls Try.prog 44 #[.pointer (some ⟨b, 0, none⟩)] w fun e w' => e = .returned (.int .i64 (cond (d.is != 3 || d.proto == 1) 292)) ∧ Grew w w' := by
  simp only [DeskV.cells] at hd
  have d0 : w.cell? ⟨b, 0, none⟩ = some (.int .u8 d.proto) := cell_of hd 0
  have d1 : w.cell? ⟨b, 1, none⟩ = some (.int .u8 d.is) := cell_of hd 1
  clear hd
  generalize d.is = i at *
  generalize d.proto = p at *
  by_cases h : i = 3
  · have h1 : (i == 3) = true := beq_iff_eq.2 h
    have h2 : (i != 3) = false := by rw [bne, h1]; rfl
    rw [h2, Bool.false_or]
    subst h
    clear h1 h2
    go_enter Try.func44, Try.ntmps44
    go_wp2_with fail
    refine (unless_any _ _ _).mono ?_
    rintro e w' ⟨rfl, rfl⟩
    go_wp2_with fail
    go_ret
    exact ⟨rfl, Off.refl _ _⟩
  · have h1 : (i == 3) = false := beq_eq_false_iff_ne.2 h
    have h2 : (i != 3) = true := by rw [bne, h1]; rfl
    have H2 := Lib.hid h2
    clear h
    go_enter Try.func44, Try.ntmps44
    go_wp2_with fail
    refine (unless_any _ _ _).mono ?_
    rintro e w' ⟨rfl, rfl⟩
    go_wp2_with fail
    go_ret
    exact ⟨by first | rfl | (rw [H2.out]; rfl), Off.refl _ _⟩
end

section
variable {w : World} {t fm sm pp pm : Nat} {ownv : Value} {most last : Int} {own : List Int} {F : List (Int × FileV)} {L : List (Int × (Nat × DeskV))} {P : List (Int × Bnd)}

def connOk (own : List Int) (o ip port : Int) : Bool := own.any (· == o) && decide (0 < ip) && decide (0 < port)

set_option maxRecDepth 100000 in
set_option maxHeartbeats 2000000 in
theorem q_conn (h : TabAt w t fm sm pp pm ownv most last own F L P) (hl : own.length ≤ 1000000) (b : Option Addr) {B0 B1 B2 : Nat} {o ip port : Int} (h0 : w.cell? ⟨B0, 0, none⟩ = some (.pointer (some ⟨t, 0, none⟩))) (h1 : w.cell? ⟨B1, 0, none⟩ = some (.int .u32 o)) (h2 : w.cell? ⟨B2, 0, none⟩ = some (.int .u32 ip)) (h3 : w.cell? ⟨B2, 1, none⟩ = some (.int .u16 port)) :
    Calls Try.prog 42 #[.pointer b, .pointer (some ⟨B0, 0, none⟩), .pointer (some ⟨B1, 0, none⟩), .pointer (some ⟨B2, 0, none⟩)] w fun e w' => e = .returned (.int .i64 (cond (connOk own o ip port) 2)) ∧ Grew w w' := by
  have g1 := h.c1
  have HC := Lib.hid fun n => contains_any (h.grew ((Off.refl (fun _ => False) w).drewN n)).own hl o
  unfold connOk
  cases hc : own.any (· == o) with
  | false =>
    have HC2 := HC.out
    rw [hc] at HC2
    have HC3 := Lib.hid HC2
    clear h HC HC2 hc
    go_enter Try.func42, Try.ntmps42
    go_wp2_with fail
    go_quiet ((first | (go_at_call 25; exact Calls.quiet_of_same (HC3.out _)) | (go_at_call 31; exact Calls.quiet_of_same (unless_any _ _ _))))
    go_wp2_with fail
    go_ret
    exact ⟨by first | rfl | simp, (Off.refl _ _).drewN _⟩
  | true =>
    have HC2 := HC.out
    rw [hc] at HC2
    have HC3 := Lib.hid HC2
    clear h HC HC2 hc
    by_cases hi : 0 < ip
    · have hi1 : decide (0 < ip) = true := by simpa using hi
      have HI := Lib.hid hi1
      go_enter Try.func42, Try.ntmps42
      go_wp2_with fail
      go_quiet ((first | (go_at_call 25; exact Calls.quiet_of_same (HC3.out _)) | (go_at_call 31; exact Calls.quiet_of_same (unless_any _ _ _))))
      go_wp2_with fail
      go_ret
      exact ⟨by first | rfl | (rw [HI.out]; rfl) | simp, (Off.refl _ _).drewN _⟩
    · have hi1 : decide (0 < ip) = false := by simpa using hi
      have HI := Lib.hid hi1
      clear hi
      go_enter Try.func42, Try.ntmps42
      go_wp2_with fail
      go_quiet ((first | (go_at_call 25; exact Calls.quiet_of_same (HC3.out _)) | (go_at_call 31; exact Calls.quiet_of_same (unless_any _ _ _))))
      go_wp2_with fail
      go_ret
      exact ⟨by first | rfl | (rw [HI.out]; rfl) | simp, (Off.refl _ _).drewN _⟩

/-- the world at the call of 'asks' -/
def connW (w : World) (t : Nat) (o ip port : Int) : World :=
  ((((w.alloc (.cells #[.pointer (some ⟨t, 0, none⟩)] 26)).alloc (.cells #[.int .u32 o] 22)).alloc (.cells #[.int .u32 ip, .int .u16 port] 25)).alloc (.cells #[.int .u32 0, .int .u16 0, .int .u32 0, .int .u16 0] 36)).alloc
    (.cells #[.func (.func 42) #[] #[.pointer (some ⟨w.heap.size, 0, none⟩), .pointer (some ⟨w.heap.size + 1, 0, none⟩), .pointer (some ⟨w.heap.size + 1 + 1, 0, none⟩)], .func (.func 43) #[] #[], .func (.func 44) #[] #[]] 88)

theorem connW_facts (w : World) (t : Nat) (o ip port : Int) : Grew w (connW w t o ip port) ∧
    (connW w t o ip port).heap[w.heap.size]? = some (.cells #[.pointer (some ⟨t, 0, none⟩)] 26 (0, 0)) ∧
    (connW w t o ip port).heap[w.heap.size + 1]? = some (.cells #[.int .u32 o] 22 (0, 0)) ∧
    (connW w t o ip port).heap[w.heap.size + 1 + 1]? = some (.cells #[.int .u32 ip, .int .u16 port] 25 (0, 0)) ∧
    (connW w t o ip port).heap[w.heap.size + 1 + 1 + 1]? = some (.cells #[.int .u32 0, .int .u16 0, .int .u32 0, .int .u16 0] 36 (0, 0)) ∧
    (connW w t o ip port).heap[w.heap.size + 1 + 1 + 1 + 1]? = some (.cells #[.func (.func 42) #[] #[.pointer (some ⟨w.heap.size, 0, none⟩), .pointer (some ⟨w.heap.size + 1, 0, none⟩), .pointer (some ⟨w.heap.size + 1 + 1, 0, none⟩)], .func (.func 43) #[] #[], .func (.func 44) #[] #[]] 88 (0, 0)) := by
  unfold connW
  refine ⟨((((grew_alloc _ _).alloc _).alloc _).alloc _).alloc _, ?_, ?_, ?_, ?_, ?_⟩
  · rw [Below.heap_alloc _ _ _ (by simp; omega), Below.heap_alloc _ _ _ (by simp; omega), Below.heap_alloc _ _ _ (by simp; omega), Below.heap_alloc _ _ _ (by simp)]
    exact (MapKept.heap_alloc _ _).1
  · rw [Below.heap_alloc _ _ _ (by simp), Below.heap_alloc _ _ _ (by simp), Below.heap_alloc _ _ _ (by simp)]
    have := (MapKept.heap_alloc (w.alloc (.cells #[.pointer (some ⟨t, 0, none⟩)] 26)) (.cells #[.int .u32 o] 22)).1
    rwa [World.size_alloc] at this
  · rw [Below.heap_alloc _ _ _ (by simp), Below.heap_alloc _ _ _ (by simp)]
    have := (MapKept.heap_alloc ((w.alloc (.cells #[.pointer (some ⟨t, 0, none⟩)] 26)).alloc (.cells #[.int .u32 o] 22)) (.cells #[.int .u32 ip, .int .u16 port] 25)).1
    rwa [World.size_alloc, World.size_alloc] at this
  · rw [Below.heap_alloc _ _ _ (by simp)]
    have := (MapKept.heap_alloc (((w.alloc (.cells #[.pointer (some ⟨t, 0, none⟩)] 26)).alloc (.cells #[.int .u32 o] 22)).alloc (.cells #[.int .u32 ip, .int .u16 port] 25)) (.cells #[.int .u32 0, .int .u16 0, .int .u32 0, .int .u16 0] 36)).1
    rwa [World.size_alloc, World.size_alloc, World.size_alloc] at this
  · have := (MapKept.heap_alloc ((((w.alloc (.cells #[.pointer (some ⟨t, 0, none⟩)] 26)).alloc (.cells #[.int .u32 o] 22)).alloc (.cells #[.int .u32 ip, .int .u16 port] 25)).alloc (.cells #[.int .u32 0, .int .u16 0, .int .u32 0, .int .u16 0] 36)) (.cells #[.func (.func 42) #[] #[.pointer (some ⟨w.heap.size, 0, none⟩), .pointer (some ⟨w.heap.size + 1, 0, none⟩), .pointer (some ⟨w.heap.size + 1 + 1, 0, none⟩)], .func (.func 43) #[] #[], .func (.func 44) #[] #[]] 88)).1
    rwa [World.size_alloc, World.size_alloc, World.size_alloc, World.size_alloc] at this

def connAsk (own : List Int) (d : DeskV) (o ip port : Int) : Int := askErr [⟨42, #[], cond (connOk own o ip port) 2⟩, ⟨43, #[], cond (d.is != 2) 3⟩, ⟨44, #[], cond (d.is != 3 || d.proto == 1) 292⟩]

theorem conn_asks (h : TabAt w t fm sm pp pm ownv most last own F L P) (hl : own.length ≤ 1000000) {fd : Int} (hfd : (Lit.int .i64 fd).wf = true) {f : FileV} (hf : mget F fd = some f) (hk : f.kind = 1) (hid : (Lit.int .u64 f.id).wf = true) {b : Nat} {d : DeskV} (hb : mget L f.id = some (b, d)) (o ip port : Int) :
    Calls Try.prog 29 #[.pointer (some ⟨t, 0, none⟩), .int .i64 fd, .slice (some ⟨w.heap.size + 1 + 1 + 1 + 1, 0, none⟩) 3 3] (connW w t o ip port) (AskPost (connW w t o ip port) f.id b (connAsk own d o ip port)) := by
  obtain ⟨hg, h0, h1, h2, h3, h4⟩ := connW_facts w t o ip port
  generalize connW w t o ip port = W at *
  have hT := h.grew hg
  refine (asks_ok hT hfd hf hk hid hb (l := [⟨42, #[.pointer (some ⟨w.heap.size, 0, none⟩), .pointer (some ⟨w.heap.size + 1, 0, none⟩), .pointer (some ⟨w.heap.size + 1 + 1, 0, none⟩)], cond (connOk own o ip port) 2⟩, ⟨43, #[], cond (d.is != 2) 3⟩, ⟨44, #[], cond (d.is != 3 || d.proto == 1) 292⟩]) (q := w.heap.size + 1 + 1 + 1 + 1) (n := 3) (cap := 3) rfl (by simp) ?_ ?_ ?_)
  · intro i hi
    match i, hi with
    | 0, _ => exact cell_of h4 0
    | 1, _ => exact cell_of h4 1
    | 2, _ => exact cell_of h4 2
  · intro a ha
    simp only [List.mem_cons, List.not_mem_nil, or_false] at ha
    rcases ha with rfl | rfl | rfl
    · exact enters_of Try.func42 (by kernel_rfl) rfl
    · exact enters_of Try.func43 (by kernel_rfl) rfl
    · exact enters_of Try.func44 (by kernel_rfl) rfl
  · intro a ha w' hg'
    have hT' := hT.grew hg'
    have k : ∀ {j : Nat} {c : Array Value} {ty : TypeId}, W.heap[j]? = some (.cells c ty (0, 0)) → w'.heap[j]? = some (.cells c ty (0, 0)) := fun hj => (hg'.block _ (Array.getElem?_eq_some_iff.1 hj).1 fun h => h).trans hj
    simp only [List.mem_cons, List.not_mem_nil, or_false] at ha
    rcases ha with rfl | rfl | rfl
    · exact q_conn hT' hl _ (cell_of (k h0) 0) (cell_of (k h1) 0) (cell_of (k h2) 0) (cell_of (k h2) 1)
    · exact q_nolisten (hT'.desks _ (mget_mem hb))
    · exact q_again (hT'.desks _ (mget_mem hb))

set_option maxRecDepth 100000 in
set_option maxHeartbeats 2000000 in
theorem connect_err (h : TabAt w t fm sm pp pm ownv most last own F L P) (hl : own.length ≤ 1000000) {fd : Int} (hfd : (Lit.int .i64 fd).wf = true) {f : FileV} (hf : mget F fd = some f) (hk : f.kind = 1) (hid : (Lit.int .u64 f.id).wf = true) {b : Nat} {d : DeskV} (hb : mget L f.id = some (b, d)) (o ip port draw : Int)
    {c : Int} (hc : connAsk own d o ip port = c) (hc0 : c ≠ 0) :
    Calls Try.prog 17 #[.pointer (some ⟨t, 0, none⟩), .int .i64 fd, .int .u32 o, .agg #[.int .u32 ip, .int .u16 port], .int .u16 draw] w fun e w' => e = .returned (.tuple #[.agg #[.int .u32 0, .int .u16 0, .int .u32 0, .int .u16 0], .int .i64 c]) ∧ Grew w w' := by
  have hAsk := conn_asks h hl hfd hf hk hid hb o ip port
  obtain ⟨hg, _, _, _, k3, _⟩ := connW_facts w t o ip port
  rw [hc] at hAsk
  have HAsk := Lib.hid hAsk
  have HG := Lib.hid hg
  have HK := Lib.hid k3
  have hb1 : (c == 0) = false := beq_eq_false_iff_ne.2 hc0
  have hb2 : (c != 0) = true := by rw [bne, hb1]; rfl
  have HC := Lib.hid hc0
  clear h hf hb hAsk hg hc hc0 k3
  go_enter Try.func17, Try.ntmps17
  go_wp2_with fail
  refine HAsk.out.mono ?_
  rintro e w1 ⟨he, hg1⟩
  rw [if_neg HC.out] at he
  subst he
  have HG1 := Lib.hid (HG.out.trans hg1)
  have hb := (hg1.block _ (Array.getElem?_eq_some_iff.1 HK.out).1 fun h => h).trans HK.out
  have r0 := cell_of hb 0
  have r1 := cell_of hb 1
  have r2 := cell_of hb 2
  have r3 := cell_of hb 3
  have s0 := frozen_of hb 0
  have s1 := frozen_of hb 1
  have s2 := frozen_of hb 2
  have s3 := frozen_of hb 3
  simp only [List.getElem?_toArray, List.getElem?_cons_zero, List.getElem?_cons_succ] at r0 r1 r2 r3
  have hlt : w.heap.size ≤ w.heap.size + 1 + 1 + 1 := by omega
  have HB := Lib.hid hb
  clear hg1 hb
  go_wp2_with fail
  have ho : Off (fun k => w.heap.size ≤ k) w ((((w1.setCell ⟨w.heap.size + 1 + 1 + 1, 0, none⟩ (.int .u32 0)).setCell ⟨w.heap.size + 1 + 1 + 1, 1, none⟩ (.int .u16 0)).setCell ⟨w.heap.size + 1 + 1 + 1, 2, none⟩ (.int .u32 0)).setCell ⟨w.heap.size + 1 + 1 + 1, 3, none⟩ (.int .u16 0)) :=
    pair_off (HG1.out.mono fun _ _ h => h.elim) hlt _ _ _ _
  have hq := pair_set HB.out (.int .u32 0) (.int .u16 0) (.int .u32 0) (.int .u16 0)
  generalize ((((w1.setCell ⟨w.heap.size + 1 + 1 + 1, 0, none⟩ (.int .u32 0)).setCell ⟨w.heap.size + 1 + 1 + 1, 1, none⟩ (.int .u16 0)).setCell ⟨w.heap.size + 1 + 1 + 1, 2, none⟩ (.int .u32 0)).setCell ⟨w.heap.size + 1 + 1 + 1, 3, none⟩ (.int .u16 0)) = w2 at *
  obtain ⟨z0, z1, z2, z3⟩ := pair_cells hq
  refine bodyPost_ret (v := .tuple #[.agg #[.int .u32 0, .int .u16 0, .int .u32 0, .int .u16 0], .int .i64 c]) (by simp [results, Try.results17, go_sem, z0, z1, z2, z3]) rfl ⟨rfl, ?_⟩
  exact ⟨ho.os, ho.tape, ho.output, ho.size, fun k hk _ => ho.block k hk (by omega)⟩
end
end Go.Proofs.Ytnpfbdekomhonaa
