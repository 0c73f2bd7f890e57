/- A pool that the call itself has made; 'works': the document's example. -/
import Derived.Test.YtagdolkfefbohaaDoes
namespace Go.Proofs.Ytagdolkfefbohaa
open Go.RowKit Stv

/-- a pool in memory that is newer than w0; nothing else has turned since w0 -/
def PoolNew (w0 : World) (p : Nat) (most : Int) (s : PS) (w : World) : Prop := ∃ S, PoolIs w p most s S ∧ (∀ k, S k → w0.heap.size ≤ k) ∧ Grew w0 w

theorem PoolNew.step {w0 w w' : World} {p : Nat} {most : Int} {s' : PS} {S : Nat → Prop} (hS : ∀ k, S k → w0.heap.size ≤ k) (hg : Grew w0 w) (h : PoolTo w p most s' S w') : PoolNew w0 p most s' w' := by
  obtain ⟨S', h1, h2, h3⟩ := h
  refine ⟨S', h1, fun k hk => ?_, hg.next h3 fun i hi => .inr (hS i hi)⟩
  rcases h2 k hk with h | h
  · exact hS k h
  · exact Nat.le_trans hg.size h
theorem PoolNew.grew {w0 w w' : World} {p : Nat} {most : Int} {s : PS} (h : PoolNew w0 p most s w) (hg : Grew w w') : PoolNew w0 p most s w' := by
  obtain ⟨S, h1, h2, h3⟩ := h
  exact ⟨S, h1.off hg fun _ _ h => h, h2, h3.trans hg⟩
theorem PoolNew.alloc {w0 w : World} {p : Nat} {most : Int} {s : PS} (h : PoolNew w0 p most s w) (o : Obj) : PoolNew w0 p most s (w.alloc o) := h.grew (grew_alloc _ _)
theorem PoolNew.base {w0 w : World} {p : Nat} {most : Int} {s : PS} (h : PoolNew w0 p most s w) : Grew w0 w := by obtain ⟨_, _, _, h⟩ := h; exact h

theorem newsN {n : Int} (h1 : 1 ≤ n) (h2 : n ≤ 4096) {w0 w : World} (hg : Grew w0 w) :
    Calls Try.prog 8 #[.int .i64 n] w fun e w' => e = .returned (.tuple #[.pointer (some ⟨w.heap.size + 1, 0, none⟩), .int .i64 0]) ∧ PoolNew w0 (w.heap.size + 1) n ⟨0, []⟩ w' :=
  (news h1 h2 w).mono fun e w' ⟨he, hp, hg'⟩ => ⟨he, _, hp, fun k hk => by have := hg.size; rcases hk with rfl | rfl <;> omega, hg.trans hg'⟩
theorem takesN {w0 w : World} {p : Nat} {most : Int} {s : PS} (h : PoolNew w0 p most s w) (hf : s.Fit most) (hl : s.last ≤ 1000000) (ho t : ByteArray) {r : (Int × Int) × PS} (hr : psTake most s ho t = r) :
    Calls Try.prog 14 #[.pointer (some ⟨p, 0, none⟩), .string ho, .string t] w fun e w' => e = .returned (.tuple #[.int .u64 r.1.1, .int .i64 r.1.2]) ∧ PoolNew w0 p most r.2 w' := by
  obtain ⟨S, h1, h2, h3⟩ := h
  subst hr
  exact (takes h1 hf hl ho t).mono fun e w' ⟨he, ht⟩ => ⟨he, .step h2 h3 ht⟩
theorem movesN {w0 w : World} {p : Nat} {most : Int} {s : PS} (h : PoolNew w0 p most s w) {id : Int} (hid : (Lit.int .u64 id).wf = true) (ho t : ByteArray) {r : Int × PS} (hr : psMove s id ho t = r) :
    Calls Try.prog 16 #[.pointer (some ⟨p, 0, none⟩), .int .u64 id, .string ho, .string t] w fun e w' => e = .returned (.int .i64 r.1) ∧ PoolNew w0 p most r.2 w' := by
  obtain ⟨S, h1, h2, h3⟩ := h
  subst hr
  exact (moves h1 hid ho t).mono fun e w' ⟨he, ht⟩ => ⟨he, .step h2 h3 ht⟩
theorem setsN {w0 w : World} {p : Nat} {most : Int} {s : PS} (h : PoolNew w0 p most s w) {id : Int} (hid : (Lit.int .u64 id).wf = true) (ho t : ByteArray) {r : Int × PS} (hr : psSet s id ho t = r) :
    Calls Try.prog 17 #[.pointer (some ⟨p, 0, none⟩), .int .u64 id, .string ho, .string t] w fun e w' => e = .returned (.int .i64 r.1) ∧ PoolNew w0 p most r.2 w' := by
  obtain ⟨S, h1, h2, h3⟩ := h
  subst hr
  exact (sets h1 hid ho t).mono fun e w' ⟨he, ht⟩ => ⟨he, .step h2 h3 ht⟩
theorem getsN {w0 w : World} {p : Nat} {most : Int} {s : PS} (h : PoolNew w0 p most s w) {id : Int} (hid : (Lit.int .u64 id).wf = true) {b : Buf} (hb : vget s.V id = some b) :
    Calls Try.prog 12 #[.pointer (some ⟨p, 0, none⟩), .int .u64 id] w fun e w' => e = .returned (.tuple #[.agg #[.int .u64 b.id, .string b.holder, .string b.text], .bool true]) ∧ PoolNew w0 p most s w' := by
  have h' := h
  obtain ⟨S, h1, h2, h3⟩ := h
  refine (gets h1 hid).mono fun e w' ⟨he, ht⟩ => ⟨?_, h'.grew ht⟩
  rw [he, hb]
theorem freesN {w0 w : World} {p : Nat} {most : Int} {s : PS} (h : PoolNew w0 p most s w) (hf : s.Fit most) (hm : most ≤ 4096) {n : Int} (hn : most - s.V.length = n) :
    Calls Try.prog 11 #[.pointer (some ⟨p, 0, none⟩)] w fun e w' => e = .returned (.int .i64 n) ∧ PoolNew w0 p most s w' := by
  have h' := h
  obtain ⟨S, h1, h2, h3⟩ := h
  subst hn
  exact (frees h1 hf hm).mono fun e w' ⟨he, ht⟩ => ⟨he, h'.grew ht⟩
/-- 'p.Give(ho, 1)' -/
theorem gives1 {w0 w : World} {p : Nat} {most : Int} {s : PS} (h : PoolNew w0 p most s w) (ho : ByteArray) {r : Int × PS} (hr : psGive s ho [1] = r) {n : Nat} (hn : w.heap.size = n) :
    Calls Try.prog 15 #[.pointer (some ⟨p, 0, none⟩), .string ho, .slice (some ⟨n, 0, none⟩) 1 1] (w.alloc (.cells #[.int .u64 1] 30)) fun e w' => e = .returned (.int .i64 r.1) ∧ PoolNew w0 p most r.2 w' := by
  obtain ⟨S, h1, h2, h3⟩ := h
  subst hr
  subst hn
  refine (gives (h1.alloc _) ho (ids := [1]) (by simp; decide) (.inr ⟨w.heap.size, 0, 1, rfl, by simp, fun j hj => ?_⟩) (fun k hk hS => ?_) (by simp)).mono fun e w' ⟨he, ht⟩ => ⟨he, .step h2 (h3.alloc _) ht⟩
  · obtain rfl : j = 0 := by simp at hj; omega
    simp
  · obtain ⟨m, L, _, _, _, hlt⟩ := h1
    cases hk
    have h4 := hlt _ hS
    exact Nat.lt_irrefl _ h4

def rx : ByteArray := ⟨#[114, 120]⟩
def soft : ByteArray := ⟨#[115, 111, 102, 116]⟩
def aa : ByteArray := ⟨#[97]⟩
theorem w1 : psTake 2 ⟨0, []⟩ rx aa = ((1, 0), ⟨1, [⟨1, rx, aa⟩]⟩) := by rfl
theorem w2 : psMove ⟨1, [⟨1, rx, aa⟩]⟩ 1 rx soft = (0, ⟨1, [⟨1, soft, aa⟩]⟩) := by rfl
theorem w3 : psGive ⟨1, [⟨1, soft, aa⟩]⟩ rx [1] = (3, ⟨1, [⟨1, soft, aa⟩]⟩) := by rfl
theorem w4 : psGive ⟨1, [⟨1, soft, aa⟩]⟩ soft [1] = (0, ⟨1, []⟩) := by rfl
theorem fit0 {n : Int} (hn : 0 ≤ n) : (PS.mk 0 []).Fit n := ⟨by simp, by simpa using hn, Int.le_refl 0, by simp⟩
theorem fit1 : (PS.mk 1 [⟨1, soft, aa⟩]).Fit 2 := ⟨by simp, by decide, by decide, by simp⟩
theorem fit2 : (PS.mk 1 []).Fit 2 := ⟨by simp, by decide, by decide, by simp⟩

set_option maxHeartbeats 1000000 in
theorem works_any (w : World) : Calls Try.prog 7 #[] w fun e w' => e = .returned (.bool true) ∧ Grew w w' := by
  go_enter Try.func7, Try.ntmps7
  go_wp2_with fail
  refine (newsN (by decide) (by decide) (Off.refl _ w)).mono ?_
  rintro e wa ⟨rfl, h0⟩
  have H0 := Lib.hid h0
  clear h0
  go_wp2_with fail
  refine (takesN H0.out (fit0 (by decide)) (by decide) _ _ w1).mono ?_
  rintro e wb ⟨rfl, h1⟩
  have H1 := Lib.hid h1
  clear h1
  go_wp2_with fail
  refine (movesN H1.out (by decide) _ _ w2).mono ?_
  rintro e wc ⟨rfl, h2⟩
  have H2 := Lib.hid h2
  clear h2
  go_wp2_with fail
  refine (gives1 H2.out _ w3 rfl).mono ?_
  rintro e wd ⟨rfl, h3⟩
  have H3 := Lib.hid h3
  clear h3
  go_wp2_with fail
  refine (getsN H3.out (by decide) (b := ⟨1, ⟨#[115, 111, 102, 116]⟩, ⟨#[97]⟩⟩) rfl).mono ?_
  rintro e we ⟨rfl, h4⟩
  have H4 := Lib.hid h4
  clear h4
  go_wp2_with fail
  refine (freesN (H4.out.alloc _) fit1 (by decide) (n := 1) (by decide)).mono ?_
  rintro e wf ⟨rfl, h5⟩
  have H5 := Lib.hid h5
  clear h5
  go_wp2_with fail
  refine (gives1 H5.out _ w4 rfl).mono ?_
  rintro e wg ⟨rfl, h6⟩
  have H6 := Lib.hid h6
  clear h6
  go_wp2_with fail
  refine (freesN H6.out fit2 (by decide) (n := 2) (by decide)).mono ?_
  rintro e wh ⟨rfl, h7⟩
  have H7 := Lib.hid h7
  clear h7
  go_wp2_with fail
  go_ret
  exact ⟨rfl, H7.out.base⟩
end Go.Proofs.Ytagdolkfefbohaa
