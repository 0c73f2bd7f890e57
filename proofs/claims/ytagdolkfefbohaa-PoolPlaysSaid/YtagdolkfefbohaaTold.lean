/- 'told': a step of a script, of the document's pool. -/
import Derived.Test.YtagdolkfefbohaaRef4
namespace Go.Proofs.Ytagdolkfefbohaa
open Go.RowKit Stv

set_option maxHeartbeats 400000 in
theorem told0 {w : World} {p : Nat} {most : Int} {s : PS} {S : Nat → Prop} (h : RefIs w p most s S) (hf : s.Fit most) (hl : s.last ≤ 1000000) (hm : most ≤ 4096) (who to t : ByteArray) (n : Int) (l : Value) :
    Calls Try.prog 10 #[.pointer (some ⟨p, 0, none⟩), .agg #[.int .i64 0, .string who, .string to, .string t, .int .u64 n, l]] w fun e w' =>
      e = .returned (.tuple #[.int .u64 (psTake most s who t).1.1, .int .i64 (psTake most s who t).1.2]) ∧ RefTo w p most (psTake most s who t).2 S w' := by
  have H := Lib.hid h
  clear h
  go_enter Try.func10, Try.ntmps10
  go_wp2_with (go_at_call 19; refine (rtakes (H.out.alloc _) hf hl hm _ _).mono ?_; rintro e w' ⟨rfl, hT⟩; have HT := Lib.hid hT; clear hT)
  go_ret2
  exact ⟨rfl, HT.out.behind (grew_alloc _ _)⟩

set_option maxHeartbeats 400000 in
theorem told1 {w : World} {p : Nat} {most : Int} {s : PS} {S : Nat → Prop} (h : RefIs w p most s S) (hf : s.Fit most) (hm : most ≤ 4096) (who to t : ByteArray) (n : Int) (l : Value) (ids : List Int) (hs : SrcAt w l ids) (hlen : ids.length ≤ 9223372036854775807) :
    Calls Try.prog 10 #[.pointer (some ⟨p, 0, none⟩), .agg #[.int .i64 1, .string who, .string to, .string t, .int .u64 n, l]] w fun e w' =>
      e = .returned (.tuple #[.int .u64 0, .int .i64 (psGive s who ids).1]) ∧ RefTo w p most (psGive s who ids).2 S w' := by
  have H := Lib.hid h
  have HS : Hid (∀ O, SrcAt (w.alloc O) l ids) := Lib.hid fun O => by
    rcases hs with hs | ⟨a, cap, hv, hc⟩
    · exact .inl hs
    · refine .inr ⟨a, cap, hv, fun j u hu => ?_⟩
      have := hc j u hu
      rw [(grew_alloc w O).cell (World.block_lt_of_cell? _ _ this) fun h => h]
      exact this
  clear h hs
  go_enter Try.func10, Try.ntmps10
  go_wp2_with (go_at_call 20; refine (rgives (H.out.alloc _) hf hm _ (HS.out _) hlen).mono ?_; rintro e w' ⟨rfl, hT⟩; have HT := Lib.hid hT; clear hT)
  go_ret2
  exact ⟨rfl, HT.out.behind (grew_alloc _ _)⟩

set_option maxHeartbeats 400000 in
theorem told2 {w : World} {p : Nat} {most : Int} {s : PS} {S : Nat → Prop} (h : RefIs w p most s S) (hf : s.Fit most) (hm : most ≤ 4096) (who to t : ByteArray) (n : Int) (l : Value) :
    Calls Try.prog 10 #[.pointer (some ⟨p, 0, none⟩), .agg #[.int .i64 2, .string who, .string to, .string t, .int .u64 n, l]] w fun e w' =>
      e = .returned (.tuple #[.int .u64 0, .int .i64 (psMove s n who to).1]) ∧ RefTo w p most (psMove s n who to).2 S w' := by
  have H := Lib.hid h
  clear h
  go_enter Try.func10, Try.ntmps10
  go_wp2_with (go_at_call 21; refine (rmoves (H.out.alloc _) hf hm _ _ _).mono ?_; rintro e w' ⟨rfl, hT⟩; have HT := Lib.hid hT; clear hT)
  go_ret2
  exact ⟨rfl, HT.out.behind (grew_alloc _ _)⟩

set_option maxHeartbeats 400000 in
theorem told3 {w : World} {p : Nat} {most : Int} {s : PS} {S : Nat → Prop} (h : RefIs w p most s S) (hf : s.Fit most) (hm : most ≤ 4096) (who to t : ByteArray) (n : Int) (l : Value) :
    Calls Try.prog 10 #[.pointer (some ⟨p, 0, none⟩), .agg #[.int .i64 3, .string who, .string to, .string t, .int .u64 n, l]] w fun e w' =>
      e = .returned (.tuple #[.int .u64 0, .int .i64 (psSet s n who t).1]) ∧ RefTo w p most (psSet s n who t).2 S w' := by
  have H := Lib.hid h
  clear h
  go_enter Try.func10, Try.ntmps10
  go_wp2_with (go_at_call 22; refine (rsets (H.out.alloc _) hf hm _ _ _).mono ?_; rintro e w' ⟨rfl, hT⟩; have HT := Lib.hid hT; clear hT)
  go_ret2
  exact ⟨rfl, HT.out.behind (grew_alloc _ _)⟩

set_option maxHeartbeats 400000 in
theorem toldx {w : World} {p : Nat} {most : Int} {s : PS} {S : Nat → Prop} (h : RefIs w p most s S) (who to t : ByteArray) (n : Int) (l : Value) {d : Int} (h0 : (d == 0) = false) (h1 : (d == 1) = false) (h2 : (d == 2) = false) (h3 : (d == 3) = false) :
    Calls Try.prog 10 #[.pointer (some ⟨p, 0, none⟩), .agg #[.int .i64 d, .string who, .string to, .string t, .int .u64 n, l]] w fun e w' =>
      e = .returned (.tuple #[.int .u64 0, .int .i64 0]) ∧ RefTo w p most s S w' := by
  have H := Lib.hid h
  clear h
  go_enter Try.func10, Try.ntmps10
  go_wp2
  go_ret2
  exact ⟨rfl, H.out.grew (grew_alloc _ _)⟩

theorem told_any {w : World} {p : Nat} {most : Int} {s : PS} {S : Nat → Prop} (h : RefIs w p most s S) (hf : s.Fit most) (hl : s.last ≤ 1000000) (hm : most ≤ 4096) {x : StepV} (hx : StepOk w x) :
    Calls Try.prog 10 #[.pointer (some ⟨p, 0, none⟩), x.val] w fun e w' =>
      e = .returned (.tuple #[.int .u64 (psStep most s x).1.1, .int .i64 (psStep most s x).1.2]) ∧ RefTo w p most (psStep most s x).2 S w' := by
  obtain ⟨d, who, to, t, n, l, ids⟩ := x
  unfold psStep
  simp only [StepV.val]
  have hlen := hx.len
  by_cases h0 : d = 0
  · subst h0
    rw [if_pos rfl]; exact told0 h hf hl hm who to t n l
  · rw [if_neg h0]
    by_cases h1 : d = 1
    · subst h1
      rw [if_pos rfl]; exact told1 h hf hm who to t n l ids hx.src (by simp only at hlen; omega)
    · rw [if_neg h1]
      by_cases h2 : d = 2
      · subst h2
        rw [if_pos rfl]; exact told2 h hf hm who to t n l
      · rw [if_neg h2]
        by_cases h3 : d = 3
        · subst h3
          rw [if_pos rfl]; exact told3 h hf hm who to t n l
        · rw [if_neg h3]
          exact toldx h who to t n l (beq_eq_false_iff_ne.2 h0) (beq_eq_false_iff_ne.2 h1) (beq_eq_false_iff_ne.2 h2) (beq_eq_false_iff_ne.2 h3)
end Go.Proofs.Ytagdolkfefbohaa
