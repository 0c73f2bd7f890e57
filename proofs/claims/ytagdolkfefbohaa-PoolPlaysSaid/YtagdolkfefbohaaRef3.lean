/- The document's pool: 'Move', 'Set'. -/
import Derived.Test.YtagdolkfefbohaaRef2
namespace Go.Proofs.Ytagdolkfefbohaa
open Go.RowKit Stv

set_option maxHeartbeats 400000 in
theorem rmove_arg {w : World} {r : Nat} {most last : Int} {lv : Value} {V : List Buf} (hr : RefAt w r most last lv V) (hlen : V.length ≤ 9223372036854775807) (id : Int) (h t : ByteArray) (ht : t.size = 0) :
    Calls Try.prog 21 #[.pointer (some ⟨r, 0, none⟩), .int .u64 id, .string h, .string t] w fun e w' => e = .returned (.int .i64 2) ∧ w = w' := by
  have hs := str_emp_yes ht
  have HR := Lib.hid hr
  clear hr
  go_enter Try.func21, Try.ntmps21
  go_wp2_with (go_at_call 13; refine (at_any HR.out _ hlen).mono ?_; rintro e w' ⟨rfl, rfl⟩)
  go_ret
  exact ⟨rfl, rfl⟩

set_option maxHeartbeats 400000 in
theorem rmove_none {w : World} {r : Nat} {most last : Int} {lv : Value} {V : List Buf} (hr : RefAt w r most last lv V) (hlen : V.length ≤ 9223372036854775807) (id : Int) (h t : ByteArray) (ht : t.size ≠ 0) (hv : vidx V id = -1) :
    Calls Try.prog 21 #[.pointer (some ⟨r, 0, none⟩), .int .u64 id, .string h, .string t] w fun e w' => e = .returned (.int .i64 5) ∧ w = w' := by
  have hs := str_emp_no ht
  have HA : Hid (Calls Try.prog 13 #[.pointer (some ⟨r, 0, none⟩), .int .u64 id] w fun e w' => e = .returned (.int .i64 (-1)) ∧ w = w') := Lib.hid (hv ▸ at_any hr id hlen)
  clear hr hv ht
  go_enter Try.func21, Try.ntmps21
  go_wp2_with (go_at_call 13; refine HA.out.mono ?_; rintro e w' ⟨rfl, rfl⟩)
  go_ret
  exact ⟨rfl, rfl⟩

set_option maxHeartbeats 400000 in
theorem rmove_state {w : World} {r g : Nat} {n cap k : Nat} (id : Int) (HA : Calls Try.prog 13 #[.pointer (some ⟨r, 0, none⟩), .int .u64 id] w fun e w' => e = .returned (.int .i64 (k : Int)) ∧ w = w') (hk : k < n)
    (c2 : w.cell? ⟨r, 2, none⟩ = some (.slice (some ⟨g, 0, none⟩) n cap)) {b : Buf} (e0 : w.cell? ⟨g, k * 3, none⟩ = some (.int .u64 b.id)) (e1 : w.cell? ⟨g, k * 3 + 1, none⟩ = some (.string b.holder)) (e2 : w.cell? ⟨g, k * 3 + 2, none⟩ = some (.string b.text))
    (h t : ByteArray) (ht : t.size ≠ 0) (hne : b.holder ≠ h) :
    Calls Try.prog 21 #[.pointer (some ⟨r, 0, none⟩), .int .u64 id, .string h, .string t] w fun e w' => e = .returned (.int .i64 3) ∧ Grew w w' := by
  have hs := str_emp_no ht
  have hs2 := str_no hne
  have HA := Lib.hid HA
  clear ht hne
  go_enter Try.func21, Try.ntmps21
  go_wp2_with (go_at_call 13; refine HA.out.mono ?_; rintro e w' ⟨rfl, rfl⟩)
  go_ret
  exact ⟨rfl, grew_alloc _ _⟩

theorem flat_set (V : List Buf) (k : Nat) (hk : k < V.length) (b : Buf) : flat (V.set k b) = (((flat V).set (k * 3) (.int .u64 b.id)).set (k * 3 + 1) (.string b.holder)).set (k * 3 + 2) (.string b.text) := by
  induction V generalizing k with
  | nil => simp at hk
  | cons c r ih =>
    cases k with
    | zero => simp [flat, bufCells]
    | succ k =>
      have := ih k (by simpa using hk)
      simp only [flat] at this
      simp only [List.set_cons_succ, flat, List.flatMap_cons, this]
      have e : bufCells c = [.int .u64 c.id, .string c.holder, .string c.text] := rfl
      rw [e, show (k + 1) * 3 = k * 3 + 1 + 1 + 1 by omega]
      simp [Nat.add_assoc]

theorem vset_at {V : List Buf} (hu : (V.map (·.id)).Nodup) {id : Int} {k : Nat} (hk : k < V.length) (he : V[k].id = id) (f : Buf → Buf) : vset V id f = V.set k (f V[k]) := by
  apply List.ext_getElem?
  intro j
  unfold vset
  rw [List.getElem?_map, List.getElem?_set]
  by_cases hjk : k = j
  · subst hjk
    simp [hk, he]
  · rw [if_neg hjk]
    cases hj : V[j]? with
    | none => rfl
    | some c =>
      obtain ⟨hjl, hjc⟩ := List.getElem?_eq_some_iff.1 hj
      have : c.id ≠ id := by
        intro e
        exact hjk ((List.getElem_inj (h₀ := by simpa using hk) (h₁ := by simpa using hjl) hu).1 (by simp [hjc, he, e]))
      simp [this]

/-- one buffer of the row has been written anew -/
theorem ref_set {w : World} {r g : Nat} {most last : Int} {lv : Value} {V : List Buf} (hr : RefAt w r most last lv V) (hg : lv.ownBlock = some g) {k : Nat} (hk : k < V.length) (b : Buf) {O : Obj} {w' : World}
    (hw : w' = ((((w.setCell ⟨g, k * 3, none⟩ (.int .u64 b.id)).setCell ⟨g, k * 3 + 1, none⟩ (.string b.holder)).setCell ⟨g, k * 3 + 2, none⟩ (.string b.text)).alloc O).drew) :
    RefAt w' r most last lv (V.set k b) ∧ Off (refBlks r lv) w w' := by
  have hgr : r ≠ g := fun e => hr.ne (e ▸ hg)
  have hl := flat_len V
  have o : Off (fun i => i = g) w w' := by
    rw [hw]
    exact ((Off.setCell (p := ⟨g, k * 3 + 2, none⟩) (Off.setCell (p := ⟨g, k * 3 + 1, none⟩) (Off.setCell (p := ⟨g, k * 3, none⟩) (Off.refl (fun i => i = g) w) (.inl rfl) _) (.inl rfl) _) (.inl rfl) _).alloc _).drew
  refine ⟨⟨(o.block r hr.lt hgr).trans hr.self, ?_⟩, o.mono fun i _ hi => .inr (hi ▸ hg)⟩
  have h1 := ((hr.row.set hg (i := k * 3) (by omega) (.int .u64 b.id)).set hg (i := k * 3 + 1) (by rw [List.length_set]; omega) (.string b.holder)).set hg (i := k * 3 + 2) (by rw [List.length_set, List.length_set]; omega) (.string b.text)
  rw [← flat_set V k hk b] at h1
  rw [hw, List.length_set]
  exact h1.off (((Off.refl (fun _ => False) _).alloc _).drew) fun _ _ h => h

set_option maxHeartbeats 800000 in
theorem rmove_ok {w : World} {r g : Nat} {n cap k : Nat} (id : Int) (HA : Calls Try.prog 13 #[.pointer (some ⟨r, 0, none⟩), .int .u64 id] w fun e w' => e = .returned (.int .i64 (k : Int)) ∧ w = w') (hk : k < n)
    (c2 : w.cell? ⟨r, 2, none⟩ = some (.slice (some ⟨g, 0, none⟩) n cap)) {b : Buf} (e0 : w.cell? ⟨g, k * 3, none⟩ = some (.int .u64 b.id)) (e1 : w.cell? ⟨g, k * 3 + 1, none⟩ = some (.string b.holder)) (e2 : w.cell? ⟨g, k * 3 + 2, none⟩ = some (.string b.text))
    (f0 : w.frozen? ⟨g, k * 3, none⟩ = false) (f1 : w.frozen? ⟨g, k * 3 + 1, none⟩ = false) (f2 : w.frozen? ⟨g, k * 3 + 2, none⟩ = false)
    (h t : ByteArray) (ht : t.size ≠ 0) (hne : b.holder = h) :
    Calls Try.prog 21 #[.pointer (some ⟨r, 0, none⟩), .int .u64 id, .string h, .string t] w fun e w' => e = .returned (.int .i64 0) ∧
      w' = ((((w.setCell ⟨g, k * 3, none⟩ (.int .u64 b.id)).setCell ⟨g, k * 3 + 1, none⟩ (.string t)).setCell ⟨g, k * 3 + 2, none⟩ (.string b.text)).alloc (.cells #[.int .u64 b.id, .string t, .string b.text] 42)).drew := by
  have hs := str_emp_no ht
  have hs2 := str_yes hne
  have hr : r < w.heap.size := World.block_lt_of_cell? _ _ c2
  have hg : g < w.heap.size := World.block_lt_of_cell? _ _ e0
  have HA := Lib.hid HA
  clear ht hne
  go_enter Try.func21, Try.ntmps21
  go_wp2_with (go_at_call 13; refine HA.out.mono ?_; rintro e w' ⟨rfl, rfl⟩)
  go_region
  all_goals go_wp2
  all_goals go_ret
  all_goals exact ⟨rfl, rfl⟩

set_option maxHeartbeats 400000 in
theorem rset_none {w : World} {r : Nat} {most last : Int} {lv : Value} {V : List Buf} (hr : RefAt w r most last lv V) (hlen : V.length ≤ 9223372036854775807) (id : Int) (h t : ByteArray) (hv : vidx V id = -1) :
    Calls Try.prog 22 #[.pointer (some ⟨r, 0, none⟩), .int .u64 id, .string h, .string t] w fun e w' => e = .returned (.int .i64 5) ∧ w = w' := by
  have HA : Hid (Calls Try.prog 13 #[.pointer (some ⟨r, 0, none⟩), .int .u64 id] w fun e w' => e = .returned (.int .i64 (-1)) ∧ w = w') := Lib.hid (hv ▸ at_any hr id hlen)
  clear hr hv
  go_enter Try.func22, Try.ntmps22
  go_wp2_with (go_at_call 13; refine HA.out.mono ?_; rintro e w' ⟨rfl, rfl⟩)
  go_ret
  exact ⟨rfl, rfl⟩

set_option maxHeartbeats 400000 in
theorem rset_state {w : World} {r g : Nat} {n cap k : Nat} (id : Int) (HA : Calls Try.prog 13 #[.pointer (some ⟨r, 0, none⟩), .int .u64 id] w fun e w' => e = .returned (.int .i64 (k : Int)) ∧ w = w') (hk : k < n)
    (c2 : w.cell? ⟨r, 2, none⟩ = some (.slice (some ⟨g, 0, none⟩) n cap)) {b : Buf} (e0 : w.cell? ⟨g, k * 3, none⟩ = some (.int .u64 b.id)) (e1 : w.cell? ⟨g, k * 3 + 1, none⟩ = some (.string b.holder)) (e2 : w.cell? ⟨g, k * 3 + 2, none⟩ = some (.string b.text))
    (h t : ByteArray) (hne : b.holder ≠ h) :
    Calls Try.prog 22 #[.pointer (some ⟨r, 0, none⟩), .int .u64 id, .string h, .string t] w fun e w' => e = .returned (.int .i64 3) ∧ Grew w w' := by
  have hs2 := str_no hne
  have HA := Lib.hid HA
  clear hne
  go_enter Try.func22, Try.ntmps22
  go_wp2_with (go_at_call 13; refine HA.out.mono ?_; rintro e w' ⟨rfl, rfl⟩)
  go_ret
  exact ⟨rfl, grew_alloc _ _⟩

set_option maxHeartbeats 400000 in
theorem rset_long {w : World} {r g : Nat} {n cap k : Nat} (id : Int) (HA : Calls Try.prog 13 #[.pointer (some ⟨r, 0, none⟩), .int .u64 id] w fun e w' => e = .returned (.int .i64 (k : Int)) ∧ w = w') (hk : k < n)
    (c2 : w.cell? ⟨r, 2, none⟩ = some (.slice (some ⟨g, 0, none⟩) n cap)) {b : Buf} (e0 : w.cell? ⟨g, k * 3, none⟩ = some (.int .u64 b.id)) (e1 : w.cell? ⟨g, k * 3 + 1, none⟩ = some (.string b.holder)) (e2 : w.cell? ⟨g, k * 3 + 2, none⟩ = some (.string b.text))
    (h t : ByteArray) (hne : b.holder = h) (ht : 65549 < t.size) :
    Calls Try.prog 22 #[.pointer (some ⟨r, 0, none⟩), .int .u64 id, .string h, .string t] w fun e w' => e = .returned (.int .i64 4) ∧ Grew w w' := by
  have hs2 := str_yes hne
  have HA := Lib.hid HA
  clear hne
  go_enter Try.func22, Try.ntmps22
  go_wp2_with (go_at_call 13; refine HA.out.mono ?_; rintro e w' ⟨rfl, rfl⟩)
  go_ret
  exact ⟨rfl, grew_alloc _ _⟩

set_option maxHeartbeats 800000 in
theorem rset_ok {w : World} {r g : Nat} {n cap k : Nat} (id : Int) (HA : Calls Try.prog 13 #[.pointer (some ⟨r, 0, none⟩), .int .u64 id] w fun e w' => e = .returned (.int .i64 (k : Int)) ∧ w = w') (hk : k < n)
    (c2 : w.cell? ⟨r, 2, none⟩ = some (.slice (some ⟨g, 0, none⟩) n cap)) {b : Buf} (e0 : w.cell? ⟨g, k * 3, none⟩ = some (.int .u64 b.id)) (e1 : w.cell? ⟨g, k * 3 + 1, none⟩ = some (.string b.holder)) (e2 : w.cell? ⟨g, k * 3 + 2, none⟩ = some (.string b.text))
    (f0 : w.frozen? ⟨g, k * 3, none⟩ = false) (f1 : w.frozen? ⟨g, k * 3 + 1, none⟩ = false) (f2 : w.frozen? ⟨g, k * 3 + 2, none⟩ = false)
    (h t : ByteArray) (hne : b.holder = h) (ht : t.size ≤ 65549) :
    Calls Try.prog 22 #[.pointer (some ⟨r, 0, none⟩), .int .u64 id, .string h, .string t] w fun e w' => e = .returned (.int .i64 0) ∧
      w' = ((((w.setCell ⟨g, k * 3, none⟩ (.int .u64 b.id)).setCell ⟨g, k * 3 + 1, none⟩ (.string b.holder)).setCell ⟨g, k * 3 + 2, none⟩ (.string t)).alloc (.cells #[.int .u64 b.id, .string b.holder, .string t] 42)).drew := by
  have hs2 := str_yes hne
  have hr : r < w.heap.size := World.block_lt_of_cell? _ _ c2
  have hg : g < w.heap.size := World.block_lt_of_cell? _ _ e0
  have HA := Lib.hid HA
  clear hne
  go_enter Try.func22, Try.ntmps22
  go_wp2_with (go_at_call 13; refine HA.out.mono ?_; rintro e w' ⟨rfl, rfl⟩)
  go_region
  all_goals go_wp2
  all_goals go_ret
  all_goals exact ⟨rfl, rfl⟩

/-- at a place: the slice, the cells -/
theorem RefAt.place {w : World} {r : Nat} {most last : Int} {lv : Value} {V : List Buf} (h : RefAt w r most last lv V) {k : Nat} (hk : k < V.length) : ∃ g cap, lv.ownBlock = some g ∧ w.cell? ⟨r, 2, none⟩ = some (.slice (some ⟨g, 0, none⟩) V.length cap) ∧
    w.cell? ⟨g, k * 3, none⟩ = some (.int .u64 V[k].id) ∧ w.cell? ⟨g, k * 3 + 1, none⟩ = some (.string V[k].holder) ∧ w.cell? ⟨g, k * 3 + 2, none⟩ = some (.string V[k].text) ∧
    w.frozen? ⟨g, k * 3, none⟩ = false ∧ w.frozen? ⟨g, k * 3 + 1, none⟩ = false ∧ w.frozen? ⟨g, k * 3 + 2, none⟩ = false := by
  obtain ⟨a, cap, hv, _, _, hn, hc⟩ := h.row.form
  cases a with
  | none => have := (hn rfl).1; omega
  | some b =>
    obtain ⟨g, rfl, _, ho, hcell⟩ := hc b rfl
    have hV : V[k]? = some V[k] := List.getElem?_eq_getElem hk
    have c0 := hcell (k * 3 + 0) _ (flat_get hV 0 (by omega))
    have c1 := hcell (k * 3 + 1) _ (flat_get hV 1 (by omega))
    have c2 := hcell (k * 3 + 2) _ (flat_get hV 2 (by omega))
    exact ⟨g, cap, ho, by rw [h.c2, hv], c0.1, c1.1, c2.1, c0.2, c1.2, c2.2⟩

theorem rmoves {w : World} {r : Nat} {most : Int} {s : PS} {S : Nat → Prop} (h : RefIs w r most s S) (hf : s.Fit most) (hm : most ≤ 4096) (id : Int) (ho t : ByteArray) :
    Calls Try.prog 21 #[.pointer (some ⟨r, 0, none⟩), .int .u64 id, .string ho, .string t] w fun e w' => e = .returned (.int .i64 (psMove s id ho t).1) ∧ RefTo w r most (psMove s id ho t).2 S w' := by
  obtain ⟨lv, hp, hS, hlt⟩ := h
  have hh : RefIs w r most s S := ⟨lv, hp, hS, hlt⟩
  have hlen : s.V.length ≤ 9223372036854775807 := by have := hf.len; omega
  unfold psMove
  by_cases h0 : t.size = 0
  · rw [if_pos h0]
    exact (rmove_arg hp hlen id ho t h0).mono fun e w' ⟨he, hw⟩ => ⟨he, hw ▸ hh.same⟩
  · rw [if_neg h0]
    rcases vidx_cases s.V id with ⟨hi, hg⟩ | ⟨k, hk, hi, hg, hid, _⟩
    · rw [hg]
      exact (rmove_none hp hlen id ho t h0 hi).mono fun e w' ⟨he, hw⟩ => ⟨he, hw ▸ hh.same⟩
    · rw [hg]
      have HA := at_any hp id hlen
      rw [hi] at HA
      obtain ⟨g, cap, hgb, c2, e0, e1, e2, f0, f1, f2⟩ := hp.place hk
      by_cases h1 : s.V[k].holder = ho
      · simp only [if_pos h1]
        refine (rmove_ok id HA hk c2 (b := s.V[k]) e0 e1 e2 f0 f1 f2 ho t h0 h1).mono fun e w' ⟨he, hw⟩ => ?_
        obtain ⟨hr', ho'⟩ := ref_set hp hgb hk { s.V[k] with holder := t } hw
        refine ⟨he, S, ⟨lv, ?_, hS, fun i hi => Nat.lt_of_lt_of_le (hlt i hi) ho'.size⟩, fun _ h => .inl h, ho'.mono fun i _ hi => hS i hi⟩
        rw [vset_at hf.uniq hk hid]; exact hr'
      · simp only [if_neg h1]
        exact (rmove_state id HA hk c2 (b := s.V[k]) e0 e1 e2 ho t h0 h1).mono fun e w' ⟨he, hw⟩ => ⟨he, hh.grew hw⟩

theorem rsets {w : World} {r : Nat} {most : Int} {s : PS} {S : Nat → Prop} (h : RefIs w r most s S) (hf : s.Fit most) (hm : most ≤ 4096) (id : Int) (ho t : ByteArray) :
    Calls Try.prog 22 #[.pointer (some ⟨r, 0, none⟩), .int .u64 id, .string ho, .string t] w fun e w' => e = .returned (.int .i64 (psSet s id ho t).1) ∧ RefTo w r most (psSet s id ho t).2 S w' := by
  obtain ⟨lv, hp, hS, hlt⟩ := h
  have hh : RefIs w r most s S := ⟨lv, hp, hS, hlt⟩
  have hlen : s.V.length ≤ 9223372036854775807 := by have := hf.len; omega
  unfold psSet
  rcases vidx_cases s.V id with ⟨hi, hg⟩ | ⟨k, hk, hi, hg, hid, _⟩
  · rw [hg]
    exact (rset_none hp hlen id ho t hi).mono fun e w' ⟨he, hw⟩ => ⟨he, hw ▸ hh.same⟩
  · rw [hg]
    have HA := at_any hp id hlen
    rw [hi] at HA
    obtain ⟨g, cap, hgb, c2, e0, e1, e2, f0, f1, f2⟩ := hp.place hk
    by_cases h1 : s.V[k].holder = ho
    · simp only [if_pos h1]
      by_cases h2 : 65549 < t.size
      · simp only [if_pos h2]
        exact (rset_long id HA hk c2 (b := s.V[k]) e0 e1 e2 ho t h1 h2).mono fun e w' ⟨he, hw⟩ => ⟨he, hh.grew hw⟩
      · simp only [if_neg h2]
        refine (rset_ok id HA hk c2 (b := s.V[k]) e0 e1 e2 f0 f1 f2 ho t h1 (by omega)).mono fun e w' ⟨he, hw⟩ => ?_
        obtain ⟨hr', ho'⟩ := ref_set hp hgb hk { s.V[k] with text := t } hw
        refine ⟨he, S, ⟨lv, ?_, hS, fun i hi => Nat.lt_of_lt_of_le (hlt i hi) ho'.size⟩, fun _ h => .inl h, ho'.mono fun i _ hi => hS i hi⟩
        rw [vset_at hf.uniq hk hid]; exact hr'
    · simp only [if_neg h1]
      exact (rset_state id HA hk c2 (b := s.V[k]) e0 e1 e2 ho t h1).mono fun e w' ⟨he, hw⟩ => ⟨he, hh.grew hw⟩
end Go.Proofs.Ytagdolkfefbohaa
