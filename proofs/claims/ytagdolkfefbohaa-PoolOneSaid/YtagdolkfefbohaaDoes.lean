/- 'does': a step of a script, played. -/
import Derived.Test.YtagdolkfefbohaaPool7
import Derived.Test.YtagdolkfefbohaaBase2
namespace Go.Proofs.Ytagdolkfefbohaa
open Go.RowKit Stv

def StepV.val (x : StepV) : Value := .agg #[.int .i64 x.doo, .string x.who, .string x.to, .string x.s, .int .u64 x.n, x.l]
def StepV.box (x : StepV) : Obj := .cells #[.int .i64 x.doo, .string x.who, .string x.to, .string x.s, .int .u64 x.n, x.l] 38

/-- a slice of numbers that came in -/
def SrcAt (w : World) (v : Value) (ids : List Int) : Prop :=
  (v = .slice none 0 0 ∧ ids = []) ∨ ∃ a cap, v = .slice (some a) ids.length cap ∧ ∀ j u, (ids.map (Value.int .u64))[j]? = some u → w.cell? (a.add j) = some u

structure StepOk (w : World) (x : StepV) : Prop where
  n : (Lit.int .u64 x.n).wf = true
  ids : ∀ id ∈ x.ids, (Lit.int .u64 id).wf = true
  src : SrcAt w x.l x.ids
  len : x.ids.length * 8 ≤ 140737488355328

theorem PoolTo.behind {w : World} {p : Nat} {most : Int} {s2 : PS} {S : Nat → Prop} {w1 w2 : World} (ho : Grew w w1) (h : PoolTo w1 p most s2 S w2) : PoolTo w p most s2 S w2 :=
  PoolTo.trans (S1 := S) ⟨fun _ h => .inl h, ho.mono fun _ _ h => h.elim⟩ h

theorem PoolIs.alloc {w : World} {p : Nat} {most : Int} {s : PS} {S : Nat → Prop} (h : PoolIs w p most s S) (o : Obj) : PoolIs (w.alloc o) p most s S :=
  h.off ((Off.refl (fun _ => False) w).alloc o) fun _ _ h => h

theorem grew_alloc (w : World) (o : Obj) : Grew w (w.alloc o) := (Off.refl _ _).alloc o

set_option maxHeartbeats 400000 in
theorem does0 {w : World} {p : Nat} {most : Int} {s : PS} {S : Nat → Prop} (h : PoolIs w p most s S) (hf : s.Fit most) (hl : s.last ≤ 1000000) (who to t : ByteArray) (n : Int) (l : Value) :
    Calls Try.prog 9 #[.pointer (some ⟨p, 0, none⟩), .agg #[.int .i64 0, .string who, .string to, .string t, .int .u64 n, l]] w fun e w' =>
      e = .returned (.tuple #[.int .u64 (psTake most s who t).1.1, .int .i64 (psTake most s who t).1.2]) ∧ PoolTo w p most (psTake most s who t).2 S w' := by
  have H := Lib.hid h
  clear h
  go_enter Try.func9, Try.ntmps9
  go_wp2_with (go_at_call 14; refine (takes (H.out.alloc _) hf hl _ _).mono ?_; rintro e w' ⟨rfl, hT⟩; have HT := Lib.hid hT; clear hT)
  go_ret2
  exact ⟨rfl, HT.out.behind (grew_alloc _ _)⟩

set_option maxHeartbeats 400000 in
theorem does2 {w : World} {p : Nat} {most : Int} {s : PS} {S : Nat → Prop} (h : PoolIs w p most s S) (who to t : ByteArray) {n : Int} (hn : (Lit.int .u64 n).wf = true) (l : Value) :
    Calls Try.prog 9 #[.pointer (some ⟨p, 0, none⟩), .agg #[.int .i64 2, .string who, .string to, .string t, .int .u64 n, l]] w fun e w' =>
      e = .returned (.tuple #[.int .u64 0, .int .i64 (psMove s n who to).1]) ∧ PoolTo w p most (psMove s n who to).2 S w' := by
  have H := Lib.hid h
  clear h
  go_enter Try.func9, Try.ntmps9
  go_wp2_with (go_at_call 16; refine (moves (H.out.alloc _) hn _ _).mono ?_; rintro e w' ⟨rfl, hT⟩; have HT := Lib.hid hT; clear hT)
  go_ret2
  exact ⟨rfl, HT.out.behind (grew_alloc _ _)⟩

set_option maxHeartbeats 400000 in
theorem does3 {w : World} {p : Nat} {most : Int} {s : PS} {S : Nat → Prop} (h : PoolIs w p most s S) (who to t : ByteArray) {n : Int} (hn : (Lit.int .u64 n).wf = true) (l : Value) :
    Calls Try.prog 9 #[.pointer (some ⟨p, 0, none⟩), .agg #[.int .i64 3, .string who, .string to, .string t, .int .u64 n, l]] w fun e w' =>
      e = .returned (.tuple #[.int .u64 0, .int .i64 (psSet s n who t).1]) ∧ PoolTo w p most (psSet s n who t).2 S w' := by
  have H := Lib.hid h
  clear h
  go_enter Try.func9, Try.ntmps9
  go_wp2_with (go_at_call 17; refine (sets (H.out.alloc _) hn _ _).mono ?_; rintro e w' ⟨rfl, hT⟩; have HT := Lib.hid hT; clear hT)
  go_ret2
  exact ⟨rfl, HT.out.behind (grew_alloc _ _)⟩

set_option maxHeartbeats 400000 in
theorem doesx {w : World} {p : Nat} {most : Int} {s : PS} {S : Nat → Prop} (h : PoolIs w p most s S) (who to t : ByteArray) (n : Int) (l : Value) {d : Int} (h0 : (d == 0) = false) (h1 : (d == 1) = false) (h2 : (d == 2) = false) (h3 : (d == 3) = false) :
    Calls Try.prog 9 #[.pointer (some ⟨p, 0, none⟩), .agg #[.int .i64 d, .string who, .string to, .string t, .int .u64 n, l]] w fun e w' =>
      e = .returned (.tuple #[.int .u64 0, .int .i64 0]) ∧ PoolTo w p most s S w' := by
  have H := Lib.hid h
  clear h
  go_enter Try.func9, Try.ntmps9
  go_wp2
  go_ret2
  exact ⟨rfl, H.out.grew (grew_alloc _ _)⟩

theorem Try.info30 : (Try.prog.info? 30).map (fun i => (i.zero, i.size, i.bytes)) = some (some (.int .u64 0), 1, 8) := by kernel_rfl

/-- 'append([]uint64(nil), l...)' -/
theorem app_nil {w : World} {l : Value} {ids : List Int} (hs : SrcAt w l ids) (hl : ids.length * 8 ≤ 140737488355328) :
    ∃ v' w', (Builtin.append_ #[36, 36] 36 #[.slice none 0 0, l]).run Try.prog w = .ok v' w' ∧ IdsAt w' v' ids ∧ Grew w w' ∧ ∀ k, v'.ownBlock = some k → w.heap.size ≤ k := by
  obtain ⟨i0, hi, hz0, hz1, hz2⟩ := info_parts Try.info30
  rcases hs with ⟨rfl, rfl⟩ | ⟨a, cap, rfl, hc⟩
  · refine ⟨.slice none 0 0, w, ?_, .inl ⟨rfl, rfl⟩, Off.refl _ _, fun k hk => by cases hk⟩
    exact run_append_owned_none (P := Try.prog) (w := w) w.heap.size 36 36 30 i0 1 Try.underlying36 hi (.slice none 0 0) 0 [] (World.ownsRow_nil _ _ _ _)
  · obtain ⟨v', w', hrun, hown, hgr, _⟩ := run_append_own (P := Try.prog) w w.heap.size 36 36 30 i0 (.int .u64 0) 1 8 Try.underlying36 hi hz0 hz1 hz2 rfl (by decide) (.slice none 0 0) 0 [] (World.ownsRow_nil _ _ _ _)
      a ids.length cap (ids.map (Value.int .u64)) (by simp) hc (by intro u hu; obtain ⟨n, _, rfl⟩ := List.mem_map.1 hu; rfl) (by unfold maxLen; omega) (by omega) (Nat.le_refl _)
    refine ⟨v', w', hrun, ?_, (Off.refl _ _).grown hgr (fun b hb => nomatch hb), fun k hk => (hown.lt k hk).1⟩
    have hlen := hown.1
    rcases RowAt.of_own hown with ⟨rfl, h0⟩ | ⟨b, o, cap', rfl, hr⟩
    · refine .inl ⟨rfl, ?_⟩
      simpa using h0
    · refine .inr ⟨b, o, cap', by simp, ?_, fun j hj => ?_⟩
      · exact (hown.lt b rfl).2
      · refine hr j _ ?_
        simp [List.getElem?_eq_getElem hj, List.getD_eq_getElem?_getD]

set_option maxHeartbeats 400000 in
theorem does1 {w : World} {p : Nat} {most : Int} {s : PS} {S : Nat → Prop} (h : PoolIs w p most s S) (who to t : ByteArray) (n : Int) (l : Value) (ids : List Int) (hi : ∀ id ∈ ids, (Lit.int .u64 id).wf = true) (hs : SrcAt w l ids) (hl : ids.length * 8 ≤ 140737488355328) :
    Calls Try.prog 9 #[.pointer (some ⟨p, 0, none⟩), .agg #[.int .i64 1, .string who, .string to, .string t, .int .u64 n, l]] w fun e w' =>
      e = .returned (.tuple #[.int .u64 0, .int .i64 (psGive s who ids).1]) ∧ PoolTo w p most (psGive s who ids).2 S w' := by
  have H := Lib.hid h
  obtain ⟨w0, hw0⟩ : ∃ x, x = (w.alloc (.cells #[.int .i64 1, .string who, .string to, .string t, .int .u64 n, l] 38)).drew := ⟨_, rfl⟩
  have g0 : Grew w w0 := by rw [hw0]; exact (grew_alloc _ _).drew
  have hs0 : SrcAt w0 l ids := by
    rcases hs with hs | ⟨a, cap, hv, hc⟩
    · exact .inl hs
    · refine .inr ⟨a, cap, hv, fun j u hu => ?_⟩
      have := hc j u hu
      rw [g0.cell (World.block_lt_of_cell? _ _ this) fun h => h]
      exact this
  obtain ⟨v', w1, hrun, hids, hg1, hown⟩ := app_nil hs0 hl
  have H1 : Hid (PoolIs w1 p most s S) := Lib.hid ((h.off g0 fun _ _ h => h).off hg1 fun _ _ h => h)
  have HB : Hid (∀ k, v'.ownBlock = some k → ¬ S k) := Lib.hid fun k hk hSk => by
    have h1 := hown k hk
    obtain ⟨m, L, _, _, _, hlt⟩ := h
    have h2 := hlt k hSk
    have h3 := g0.size
    omega
  have c1 : w1.cell? ⟨w.heap.size, 1, none⟩ = some (.string who) := by
    rw [hg1.cell (p := ⟨w.heap.size, 1, none⟩) (by rw [hw0]; simp) fun h => h, hw0]
    simp
  have G1 := Lib.hid (g0.trans hg1)
  have HI := Lib.hid hids
  rw [hw0] at hrun
  clear h hids hs hs0 hg1 hown g0 hw0
  go_enter Try.func9, Try.ntmps9
  go_wp2
  have HR := Lib.hid hrun
  clear hrun
  go_region_law (first | (refine step_append_run rfl (.const (.slice none 0 0)) (.tmp 24) 36 36 rfl rfl (.slice none 0 0) l v' w1 rfl rfl HR.out ?_) | (go_simp; go_at_call 15; refine (gives H1.out _ hi HI.out HB.out (by omega)).mono ?_; rintro e w' ⟨rfl, hT⟩; have HT := Lib.hid hT; clear hT))
  all_goals go_wp2
  all_goals go_ret2
  all_goals exact ⟨rfl, HT.out.behind G1.out⟩

theorem does_any {w : World} {p : Nat} {most : Int} {s : PS} {S : Nat → Prop} (h : PoolIs w p most s S) (hf : s.Fit most) (hl : s.last ≤ 1000000) {x : StepV} (hx : StepOk w x) :
    Calls Try.prog 9 #[.pointer (some ⟨p, 0, none⟩), x.val] w fun e w' =>
      e = .returned (.tuple #[.int .u64 (psStep most s x).1.1, .int .i64 (psStep most s x).1.2]) ∧ PoolTo w p most (psStep most s x).2 S w' := by
  obtain ⟨d, who, to, t, n, l, ids⟩ := x
  unfold psStep
  simp only [StepV.val]
  by_cases h0 : d = 0
  · subst h0
    rw [if_pos rfl]; exact does0 h hf hl who to t n l
  · rw [if_neg h0]
    by_cases h1 : d = 1
    · subst h1
      rw [if_pos rfl]; exact does1 h who to t n l ids hx.ids hx.src hx.len
    · rw [if_neg h1]
      by_cases h2 : d = 2
      · subst h2
        rw [if_pos rfl]; exact does2 h who to t hx.n l
      · rw [if_neg h2]
        by_cases h3 : d = 3
        · subst h3
          rw [if_pos rfl]; exact does3 h who to t hx.n l
        · rw [if_neg h3]
          exact doesx h who to t n l (beq_eq_false_iff_ne.2 h0) (beq_eq_false_iff_ne.2 h1) (beq_eq_false_iff_ne.2 h2) (beq_eq_false_iff_ne.2 h3)
end Go.Proofs.Ytagdolkfefbohaa
