/- The document's pool: 'Take', 'Move', 'Set'. -/
import Derived.Test.YtagdolkfefbohaaRef1
namespace Go.Proofs.Ytagdolkfefbohaa
open Go.RowKit Stv

/-- BLOCK r OF w IS THE DOCUMENT's POOL that reads as s; its blocks are among S. -/
def RefIs (w : World) (r : Nat) (most : Int) (s : PS) (S : Nat → Prop) : Prop :=
  ∃ lv, RefAt w r most s.last lv s.V ∧ (∀ k, refBlks r lv k → S k) ∧ ∀ k, S k → k < w.heap.size
def RefTo (w : World) (r : Nat) (most : Int) (s' : PS) (S : Nat → Prop) (w' : World) : Prop :=
  ∃ S', RefIs w' r most s' S' ∧ (∀ k, S' k → S k ∨ w.heap.size ≤ k) ∧ Off S w w'

theorem RefIs.off {w w' : World} {p : Nat} {most : Int} {s : PS} {S T : Nat → Prop} (h : RefIs w p most s S) (ho : Off T w w') (hT : ∀ k, S k → ¬ T k) : RefIs w' p most s S := by
  obtain ⟨lv, hp, hS, hlt⟩ := h
  exact ⟨lv, hp.off ho fun k hk => hT k (hS k hk), hS, fun k hk => Nat.lt_of_lt_of_le (hlt k hk) ho.size⟩
theorem RefIs.grew {w w' : World} {p : Nat} {most : Int} {s : PS} {S : Nat → Prop} (h : RefIs w p most s S) (ho : Grew w w') : RefTo w p most s S w' :=
  ⟨S, h.off ho fun _ _ h => h, fun _ h => .inl h, ho.mono fun _ _ h => h.elim⟩
theorem RefIs.same {w : World} {p : Nat} {most : Int} {s : PS} {S : Nat → Prop} (h : RefIs w p most s S) : RefTo w p most s S w := h.grew (Off.refl _ _)
theorem RefTo.trans {w w1 w2 : World} {p : Nat} {most : Int} {s2 : PS} {S S1 : Nat → Prop} (h1 : (∀ k, S1 k → S k ∨ w.heap.size ≤ k) ∧ Off S w w1) (h : RefTo w1 p most s2 S1 w2) : RefTo w p most s2 S w2 := by
  obtain ⟨S2, a, b, c⟩ := h
  refine ⟨S2, a, fun k hk => ?_, h1.2.next c h1.1⟩
  rcases b k hk with h | h
  · exact h1.1 k h
  · exact .inr (Nat.le_trans h1.2.size h)
theorem RefTo.behind {w : World} {p : Nat} {most : Int} {s2 : PS} {S : Nat → Prop} {w1 w2 : World} (ho : Grew w w1) (h : RefTo w1 p most s2 S w2) : RefTo w p most s2 S w2 :=
  RefTo.trans (S1 := S) ⟨fun _ h => .inl h, ho.mono fun _ _ h => h.elim⟩ h
theorem RefIs.alloc {w : World} {p : Nat} {most : Int} {s : PS} {S : Nat → Prop} (h : RefIs w p most s S) (o : Obj) : RefIs (w.alloc o) p most s S :=
  h.off (grew_alloc w o) fun _ _ h => h

theorem Try.info42 : (Try.prog.info? 42).map (fun i => (i.zero, i.size, i.bytes)) = some (some (.agg #[.int .u64 0, .string ⟨#[]⟩, .string ⟨#[]⟩]), 3, 40) := by kernel_rfl

/-- 'append(l, ..)' of buffers -/
theorem app42 {w : World} {v : Value} {n : Nat} {xs : List Value} (h : OwnRow w 42 3 v n xs) {sv : Value} {m : Nat} {news : List Value} (hs : SrcRow w sv m news) (hl : news.length = m * 3) (h1 : ∀ u ∈ news, u.oneCell' = true) (hn : n + m ≤ 1000000) :
    ∃ v' w', (Builtin.append_ #[31, 31] 31 #[v, sv]).run Try.prog w = .ok v' w' ∧ OwnRow w' 42 3 v' (n + m) (xs ++ news) ∧ Off (fun k => v.ownBlock = some k) w w' ∧
      (∀ k, v'.ownBlock = some k → v.ownBlock = some k ∨ w.heap.size ≤ k) ∧ (v' = .slice none 0 0 ↔ v = .slice none 0 0 ∧ m = 0) := by
  obtain ⟨i0, hi, hz0, hz1, hz2⟩ := info_parts Try.info42
  exact run_append_row 31 31 Try.underlying31 hi hz0 hz1 hz2 rfl (by decide) h hs hl h1 (by unfold maxLen; omega) (by omega)

/-! ### Take -/
theorem rtake_arg {w : World} {r : Nat} (h t : ByteArray) (hh : h.size = 0) :
    Calls Try.prog 19 #[.pointer (some ⟨r, 0, none⟩), .string h, .string t] w fun e w' => e = .returned (.tuple #[.int .u64 0, .int .i64 2]) ∧ w = w' := by
  have hs := str_emp_yes hh
  go_enter Try.func19, Try.ntmps19
  go_wp2
  go_ret2
  exact ⟨rfl, rfl⟩
theorem rtake_long {w : World} {r : Nat} (h t : ByteArray) (hh : h.size ≠ 0) (ht : 65549 < t.size) :
    Calls Try.prog 19 #[.pointer (some ⟨r, 0, none⟩), .string h, .string t] w fun e w' => e = .returned (.tuple #[.int .u64 0, .int .i64 4]) ∧ w = w' := by
  have hs := str_emp_no hh
  clear hh
  go_enter Try.func19, Try.ntmps19
  go_wp2
  go_ret2
  exact ⟨rfl, rfl⟩
set_option maxHeartbeats 400000 in
theorem rtake_full {w : World} {r : Nat} {most last : Int} {lv : Value} {V : List Buf} (hr : RefAt w r most last lv V) (h t : ByteArray) (hh : h.size ≠ 0) (ht : t.size ≤ 65549) (hL : most ≤ V.length) :
    Calls Try.prog 19 #[.pointer (some ⟨r, 0, none⟩), .string h, .string t] w fun e w' => e = .returned (.tuple #[.int .u64 0, .int .i64 6]) ∧ Grew w w' := by
  have hs := str_emp_no hh
  obtain ⟨a, cap, rfl, _⟩ := hr.form
  have c0 := hr.c0
  have c2 := hr.c2
  clear hh hr
  go_enter Try.func19, Try.ntmps19
  go_wp2
  go_quiet (fail)
  go_wp2
  go_ret2
  exact ⟨rfl, (Off.refl _ _).drewN _⟩

theorem ref_take {w w2 w3 : World} {r : Nat} {most last : Int} {lv v' : Value} {V : List Buf} {h t : ByteArray} (hr : RefAt w r most last lv V) {n : Nat} {O : Obj}
    (hw2 : (w.drewN n).setCell ⟨r, 1, none⟩ (.int .u64 (last + 1)) = w2)
    (hown : OwnRow w3 42 3 v' (V.length + 1) (flat V ++ [.int .u64 (last + 1), .string h, .string t])) (hoff : Off (fun k => lv.ownBlock = some k) ((w2.alloc O).drew) w3)
    (hblk : ∀ k, v'.ownBlock = some k → lv.ownBlock = some k ∨ ((w2.alloc O).drew).heap.size ≤ k) :
    RefAt (w3.setCell ⟨r, 2, none⟩ v') r most (last + 1) v' (V ++ [⟨last + 1, h, t⟩]) ∧ Off (refBlks r lv) w (w3.setCell ⟨r, 2, none⟩ v') ∧ w3.cell? ⟨r, 1, none⟩ = some (.int .u64 (last + 1)) ∧ w3.cell? ⟨r, 2, none⟩ = some lv ∧ w3.frozen? ⟨r, 2, none⟩ = false := by
  have o2 : Off (refBlks r lv) w ((w2.alloc O).drew) := by
    rw [← hw2]
    exact ((Off.setCell (p := ⟨r, 1, none⟩) ((Off.refl (refBlks r lv) w).drewN n) (.inl (.inl rfl)) _).alloc _).drew
  have hsz : w2.heap.size = w.heap.size := by rw [← hw2]; simp
  have hlt := hr.lt
  have hself2 : ((w2.alloc O).drew).heap[r]? = some (.cells #[.int .i64 most, .int .u64 (last + 1), lv] 33 (0, 0)) := by
    have e : ((w2.alloc O).drew).heap[r]? = w2.heap[r]? := Below.heap_alloc _ _ _ (by omega)
    rw [e, ← hw2]
    simp only [World.setCell, Array.getElem?_modify, if_true]
    have : (w.drewN n).heap[r]? = w.heap[r]? := rfl
    rw [this, hr.self]
    simp
  have hself3 : w3.heap[r]? = some (.cells #[.int .i64 most, .int .u64 (last + 1), lv] 33 (0, 0)) :=
    (hoff.block r (by simp; omega) (fun hk => hr.ne hk)).trans hself2
  have hvr : v'.ownBlock ≠ some r := by
    intro hk
    rcases hblk r hk with h | h
    · exact hr.ne h
    · simp at h; omega
  refine ⟨⟨?_, ?_⟩, (Off.setCell (p := ⟨r, 2, none⟩) (o2.next hoff fun i hi => .inl (.inr hi)) (.inl (.inl rfl)) _), cell_of hself3 1, cell_of hself3 2, frozen_of hself3 2⟩
  · simp only [World.setCell, Array.getElem?_modify, if_true, hself3]
    simp
  · have : OwnRow w3 42 3 v' (V ++ [(⟨last + 1, h, t⟩ : Buf)]).length (flat (V ++ [⟨last + 1, h, t⟩])) := by
      rw [flat_append, List.length_append]; exact hown
    exact this.off (Off.setCell (p := ⟨r, 2, none⟩) (Off.refl (fun k => k = r) w3) (.inl rfl) _) fun k hk hkr => hvr (hkr ▸ hk)

set_option maxHeartbeats 800000 in
theorem rtake_ok {w : World} {r : Nat} {most last : Int} {lv : Value} {V : List Buf} (hr : RefAt w r most last lv V) (h t : ByteArray) (hh : h.size ≠ 0) (ht : t.size ≤ 65549) (hL : V.length < most) (hL2 : V.length ≤ 100000) (hl0 : 0 ≤ last) (hl1 : last ≤ 1000000) :
    Calls Try.prog 19 #[.pointer (some ⟨r, 0, none⟩), .string h, .string t] w fun e w' => e = .returned (.tuple #[.int .u64 (last + 1), .int .i64 0]) ∧
      ∃ v', RefAt w' r most (last + 1) v' (V ++ [⟨last + 1, h, t⟩]) ∧ Off (refBlks r lv) w w' ∧ ∀ k, v'.ownBlock = some k → lv.ownBlock = some k ∨ w.heap.size ≤ k := by
  have hs := str_emp_no hh
  have HR := Lib.hid hr
  obtain ⟨a, cap, hlv, _⟩ := hr.form
  have HLV := Lib.hid hlv
  have c0 := hr.c0
  have c1 := hr.c1
  have c2 := hr.c2
  have f1 := hr.f 1
  rw [hlv] at c2
  clear hh hr hlv
  go_enter Try.func19, Try.ntmps19
  go_wp2
  go_quiet (fail)
  go_wp2
  generalize hw2 : (w.drewN nq).setCell ⟨r, 1, none⟩ (.int .u64 (last + 1)) = w2
  have d1 : w2.cell? ⟨r, 1, none⟩ = some (.int .u64 (last + 1)) := by rw [← hw2]; exact World.cell?_setCell_same _ _ _ (u := .int .u64 last) c1
  have d2 : w2.cell? ⟨r, 2, none⟩ = some (.slice a V.length cap) := by rw [← hw2, World.cell?_setCell_other _ _ _ _ (by simp)]; exact c2
  have hlt : r < w2.heap.size := World.block_lt_of_cell? _ _ d1
  have o2 : Off (fun k => k = r) w w2 := by rw [← hw2]; exact Off.setCell (p := ⟨r, 1, none⟩) ((Off.refl (fun k => k = r) w).drewN nq) (.inl rfl) _
  have hrow : OwnRow ((w2.alloc (.cells #[.int .u64 (last + 1), .string h, .string t] 42)).drew) 42 3 lv V.length (flat V) :=
    HR.out.row.off ((o2.alloc _).drew) fun k hk hkr => HR.out.ne (hkr ▸ hk)
  obtain ⟨v', w3, hrun, hown, hoff, hblk, _⟩ := app42 hrow (sv := .slice (some ⟨w2.heap.size, 0, none⟩) 1 1) (m := 1) (news := [.int .u64 (last + 1), .string h, .string t])
    (.inr ⟨_, 1, rfl, fun j u hu => by
      have hadd : (⟨w2.heap.size, 0, none⟩ : Addr).add j = ⟨w2.heap.size, j, none⟩ := by unfold Addr.add; split <;> simp_all
      rw [hadd, World.cell?_drew, World.cell?_alloc_new]
      simpa using hu⟩) (by simp) (by intro u hu; simp at hu; rcases hu with rfl | rfl | rfl <;> rfl) (by omega)
  obtain ⟨a', cap', rfl, _⟩ := hown.form
  have HF := Lib.hid (ref_take HR.out hw2 hown hoff hblk)
  have HB : Hid (∀ k, (Value.slice a' (V.length + 1) cap').ownBlock = some k → lv.ownBlock = some k ∨ w.heap.size ≤ k) := Lib.hid fun k hk => (hblk k hk).imp (fun h => h) fun h => by have := o2.size; simp at h; omega
  have HRun : Hid ((Builtin.append_ #[31, 31] 31 #[.slice a V.length cap, .slice (some ⟨w2.heap.size, 0, none⟩) 1 1]).run Try.prog ((w2.alloc (.cells #[.int .u64 (last + 1), .string h, .string t] 42)).drew) = .ok (.slice a' (V.length + 1) cap') w3) := by
    have := hrun; rw [HLV.out] at this; exact Lib.hid this
  have e1 := HF.out.2.2.1
  have e2 := HF.out.2.2.2.1
  rw [HLV.out] at e2
  have e3 := HF.out.2.2.2.2
  clear hw2 c0 c1 c2 f1 hrow hrun hown hoff hblk o2
  go_region_law (refine step_append_run rfl (.tmp 34) (.tmp 42) 31 31 rfl rfl (.slice a V.length cap) (.slice (some ⟨w2.heap.size, 0, none⟩) 1 1) (.slice a' (V.length + 1) cap') w3 rfl rfl HRun.out ?_)
  all_goals clear d1 d2
  all_goals go_wp2
  all_goals go_ret2
  all_goals exact ⟨rfl, _, HF.out.1, HF.out.2.1, HB.out⟩

theorem rtakes {w : World} {r : Nat} {most : Int} {s : PS} {S : Nat → Prop} (h : RefIs w r most s S) (hf : s.Fit most) (hl : s.last ≤ 1000000) (hm : most ≤ 4096) (ho t : ByteArray) :
    Calls Try.prog 19 #[.pointer (some ⟨r, 0, none⟩), .string ho, .string t] w fun e w' => e = .returned (.tuple #[.int .u64 (psTake most s ho t).1.1, .int .i64 (psTake most s ho t).1.2]) ∧ RefTo w r most (psTake most s ho t).2 S w' := by
  obtain ⟨lv, hp, hS, hlt⟩ := h
  have hh : RefIs w r most s S := ⟨lv, hp, hS, hlt⟩
  have hlen := hf.len
  unfold psTake
  by_cases h0 : ho.size = 0
  · rw [if_pos h0]
    exact (rtake_arg ho t h0).mono fun e w' ⟨he, hw⟩ => ⟨he, hw ▸ hh.same⟩
  · rw [if_neg h0]
    by_cases h1 : 65549 < t.size
    · rw [if_pos h1]
      exact (rtake_long ho t h0 h1).mono fun e w' ⟨he, hw⟩ => ⟨he, hw ▸ hh.same⟩
    · rw [if_neg h1]
      by_cases h2 : most ≤ (s.V.length : Int)
      · rw [if_pos h2]
        exact (rtake_full hp ho t h0 (by omega) h2).mono fun e w' ⟨he, hw⟩ => ⟨he, hh.grew hw⟩
      · rw [if_neg h2]
        refine (rtake_ok hp ho t h0 (by omega) (by omega) (by omega) hf.last hl).mono fun e w' ⟨he, v', h1, h2, h3⟩ => ⟨he, refBlks r v', ⟨v', h1, fun _ h => h, ?_⟩, ?_, h2.mono fun k _ hk => hS k hk⟩
        · intro k hk
          rcases hk with rfl | hk
          · exact h1.lt
          · exact h1.row.lt hk
        · intro k hk
          rcases hk with hk | hk
          · exact .inl (hS k (.inl hk))
          · exact (h3 k hk).imp (fun h => hS k (.inr h)) fun h => h
end Go.Proofs.Ytagdolkfefbohaa
