/- The pool's calls by their plain functions, and 'does'. -/
import Derived.Test.YtagdolkfefbohaaPool6
import Derived.Test.YtagdolkfefbohaaPoolV
import Derived.Deep.RegionWith
import Derived.BigRegion
namespace Go.Proofs.Ytagdolkfefbohaa
open Go.RowKit Stv

def Ent.val (e : Ent) : Buf := ⟨e.id, e.holder, e.text⟩

theorem eget_val (L : List Ent) (id : Int) : vget (L.map Ent.val) id = (eget L id).map Ent.val := by
  induction L with
  | nil => rfl
  | cons e r ih => simp only [List.map_cons, Ent.val, vget, eget]; split <;> simp_all [Ent.val]
theorem edel_val (L : List Ent) (id : Int) : vdel (L.map Ent.val) id = (edel L id).map Ent.val := by
  induction L with
  | nil => rfl
  | cons e r ih => simp only [List.map_cons, Ent.val, vdel, edel]; split <;> simp_all [Ent.val]
theorem edels_val (ids : List Int) : ∀ L : List Ent, ids.foldl vdel (L.map Ent.val) = (ids.foldl edel L).map Ent.val := by
  induction ids with
  | nil => exact fun _ => rfl
  | cons i r ih => intro L; rw [List.foldl_cons, List.foldl_cons, edel_val, ih]
theorem eset_val (L : List Ent) (id : Int) (f : Ent → Ent) (g : Buf → Buf) (h : ∀ e, (f e).val = g e.val) : vset (L.map Ent.val) id g = (eset L id f).map Ent.val := by
  unfold vset eset
  rw [List.map_map, List.map_map]
  refine List.map_congr_left fun e _ => ?_
  simp only [Function.comp]
  by_cases h1 : e.id = id
  · rw [if_pos (by simpa [Ent.val] using h1), if_pos h1, h]
  · rw [if_neg (by simpa [Ent.val] using h1), if_neg h1]
theorem giveErr_val (L : List Ent) (h : ByteArray) : ∀ (ids seen : List Int), vgiveErr (L.map Ent.val) h ids seen = giveErr L h ids seen := by
  intro ids
  induction ids with
  | nil => exact fun _ => rfl
  | cons i r ih =>
    intro seen
    simp only [vgiveErr, giveErr, eget_val]
    cases eget L i with
    | none => rfl
    | some x => simp only [Option.map_some, Ent.val, ih]

/-- BLOCK p OF w IS A POOL that reads as s; its blocks are among S. -/
def PoolIs (w : World) (p : Nat) (most : Int) (s : PS) (S : Nat → Prop) : Prop :=
  ∃ m L, PoolAt w p m most s.last L ∧ L.map Ent.val = s.V ∧ (∀ k, poolBlks p m L k → S k) ∧ ∀ k, S k → k < w.heap.size

/-- behind a call: the pool reads as s'; only its own blocks, and new ones, have turned -/
def PoolTo (w : World) (p : Nat) (most : Int) (s' : PS) (S : Nat → Prop) (w' : World) : Prop :=
  ∃ S', PoolIs w' p most s' S' ∧ (∀ k, S' k → S k ∨ w.heap.size ≤ k) ∧ Off S w w'

theorem PoolIs.off {w w' : World} {p : Nat} {most : Int} {s : PS} {S T : Nat → Prop} (h : PoolIs w p most s S) (ho : Off T w w') (hT : ∀ k, S k → ¬ T k) : PoolIs w' p most s S := by
  obtain ⟨m, L, hp, hv, hS, hlt⟩ := h
  exact ⟨m, L, hp.off ho fun k hk => hT k (hS k hk), hv, hS, fun k hk => Nat.lt_of_lt_of_le (hlt k hk) ho.size⟩
theorem PoolIs.grew {w w' : World} {p : Nat} {most : Int} {s : PS} {S : Nat → Prop} (h : PoolIs w p most s S) (ho : Grew w w') : PoolTo w p most s S w' :=
  ⟨S, h.off ho fun _ _ h => h, fun _ h => .inl h, ho.mono fun _ _ h => h.elim⟩
theorem PoolIs.same {w : World} {p : Nat} {most : Int} {s : PS} {S : Nat → Prop} (h : PoolIs w p most s S) : PoolTo w p most s S w := h.grew (Off.refl _ _)
theorem PoolTo.trans {w w1 w2 : World} {p : Nat} {most : Int} {s2 : PS} {S S1 : Nat → Prop} (h1 : (∀ k, S1 k → S k ∨ w.heap.size ≤ k) ∧ Off S w w1) (h : PoolTo w1 p most s2 S1 w2) : PoolTo w p most s2 S w2 := by
  obtain ⟨S2, a, b, c⟩ := h
  refine ⟨S2, a, fun k hk => ?_, h1.2.next c h1.1⟩
  rcases b k hk with h | h
  · exact h1.1 k h
  · exact .inr (Nat.le_trans h1.2.size h)

theorem takes {w : World} {p : Nat} {most : Int} {s : PS} {S : Nat → Prop} (h : PoolIs w p most s S) (hf : s.Fit most) (hl : s.last ≤ 1000000) (ho t : ByteArray) :
    Calls Try.prog 14 #[.pointer (some ⟨p, 0, none⟩), .string ho, .string t] w fun e w' => e = .returned (.tuple #[.int .u64 (psTake most s ho t).1.1, .int .i64 (psTake most s ho t).1.2]) ∧ PoolTo w p most (psTake most s ho t).2 S w' := by
  obtain ⟨m, L, hp, hv, hS, hlt⟩ := h
  have hh : PoolIs w p most s S := ⟨m, L, hp, hv, hS, hlt⟩
  have hlen : s.V.length = L.length := by rw [← hv]; simp
  unfold psTake
  by_cases h0 : ho.size = 0
  · rw [if_pos h0]
    exact (take_arg hp h0).mono fun e w' ⟨he, hw⟩ => ⟨he, hw ▸ hh.same⟩
  · rw [if_neg h0]
    by_cases h1 : 65549 < t.size
    · rw [if_pos h1]
      exact (take_long hp h0 h1).mono fun e w' ⟨he, hw⟩ => ⟨he, hw ▸ hh.same⟩
    · rw [if_neg h1]
      by_cases h2 : most ≤ (s.V.length : Int)
      · rw [if_pos h2]
        exact (take_full hp h0 (by omega) (by rw [hlen] at h2; exact h2)).mono fun e w' ⟨he, hw⟩ => ⟨he, hh.grew hw⟩
      · rw [if_neg h2]
        refine (take_ok hp h0 (t := t) (by omega) (by omega) hf.last hl (fun e he => ?_)).mono fun e w' ⟨he, h1, h2, h3⟩ => ⟨he, fun k => S k ∨ k = w.heap.size, ⟨m, _, h1, ?_, ?_, ?_⟩, ?_, h2.mono fun k _ hk => hS k hk⟩
        · exact hf.ids e.val (by rw [← hv]; exact List.mem_map.2 ⟨e, he, rfl⟩)
        · simp [hv, Ent.val]
        · intro k hk
          rcases hk with hk | hk | ⟨e, he, hk⟩
          · exact .inl (hS k (.inl hk))
          · exact .inl (hS k (.inr (.inl hk)))
          · rcases List.mem_append.1 he with he | he
            · exact .inl (hS k (.inr (.inr ⟨e, he, hk⟩)))
            · simp at he; subst he; exact .inr hk.symm
        · intro k hk
          rcases hk with hk | rfl
          · have := hlt k hk; omega
          · omega
        · intro k hk
          rcases hk with hk | rfl
          · exact .inl hk
          · exact .inr (Nat.le_refl _)

theorem moves {w : World} {p : Nat} {most : Int} {s : PS} {S : Nat → Prop} (h : PoolIs w p most s S) {id : Int} (hid : (Lit.int .u64 id).wf = true) (ho t : ByteArray) :
    Calls Try.prog 16 #[.pointer (some ⟨p, 0, none⟩), .int .u64 id, .string ho, .string t] w fun e w' => e = .returned (.int .i64 (psMove s id ho t).1) ∧ PoolTo w p most (psMove s id ho t).2 S w' := by
  obtain ⟨m, L, hp, hv, hS, hlt⟩ := h
  have hh : PoolIs w p most s S := ⟨m, L, hp, hv, hS, hlt⟩
  unfold psMove
  by_cases h0 : t.size = 0
  · rw [if_pos h0]
    exact (move_arg hp id ho t h0).mono fun e w' ⟨he, hw⟩ => ⟨he, hw ▸ hh.same⟩
  · rw [if_neg h0, ← hv, eget_val]
    cases he : eget L id with
    | none => exact (move_none hp hid ho t h0 he).mono fun e w' ⟨he, hw⟩ => ⟨he, hw ▸ hh.same⟩
    | some x =>
      simp only [Option.map_some, Ent.val]
      by_cases h1 : x.holder = ho
      · rw [if_pos h1]
        refine (move_ok hp hid ho t h0 he h1).mono fun e w' ⟨he, h1, h2, h3⟩ => ⟨he, S, ⟨m, _, h1, ?_, ?_, fun k hk => by rw [h3]; exact hlt k hk⟩, fun _ h => .inl h, h2.mono fun k _ hk => hS k hk⟩
        · exact (eset_val L id _ _ fun _ => rfl).symm
        · intro k hk
          refine hS k (hk.imp (fun h => h) (Or.imp (fun h => h) ?_))
          rintro ⟨e, he, rfl⟩
          obtain ⟨e', he', rfl⟩ := List.mem_map.1 he
          exact ⟨e', he', by split <;> rfl⟩
      · rw [if_neg h1]
        exact (move_state hp hid ho t h0 he h1).mono fun e w' ⟨he, hw⟩ => ⟨he, hw ▸ hh.same⟩

theorem sets {w : World} {p : Nat} {most : Int} {s : PS} {S : Nat → Prop} (h : PoolIs w p most s S) {id : Int} (hid : (Lit.int .u64 id).wf = true) (ho t : ByteArray) :
    Calls Try.prog 17 #[.pointer (some ⟨p, 0, none⟩), .int .u64 id, .string ho, .string t] w fun e w' => e = .returned (.int .i64 (psSet s id ho t).1) ∧ PoolTo w p most (psSet s id ho t).2 S w' := by
  obtain ⟨m, L, hp, hv, hS, hlt⟩ := h
  have hh : PoolIs w p most s S := ⟨m, L, hp, hv, hS, hlt⟩
  unfold psSet
  rw [← hv, eget_val]
  cases he : eget L id with
  | none => exact (set_none hp hid ho t he).mono fun e w' ⟨he, hw⟩ => ⟨he, hw ▸ hh.same⟩
  | some x =>
    simp only [Option.map_some, Ent.val]
    by_cases h1 : x.holder = ho
    · rw [if_pos h1]
      by_cases h2 : 65549 < t.size
      · rw [if_pos h2]
        exact (set_long hp hid ho t he h1 h2).mono fun e w' ⟨he, hw⟩ => ⟨he, hw ▸ hh.same⟩
      · rw [if_neg h2]
        refine (set_ok hp hid ho t he h1 (by omega)).mono fun e w' ⟨he, h1, h2, h3⟩ => ⟨he, S, ⟨m, _, h1, ?_, ?_, fun k hk => by rw [h3]; exact hlt k hk⟩, fun _ h => .inl h, h2.mono fun k _ hk => hS k hk⟩
        · exact (eset_val L id _ _ fun _ => rfl).symm
        · intro k hk
          refine hS k (hk.imp (fun h => h) (Or.imp (fun h => h) ?_))
          rintro ⟨e, he, rfl⟩
          obtain ⟨e', he', rfl⟩ := List.mem_map.1 he
          exact ⟨e', he', by split <;> rfl⟩
    · rw [if_neg h1]
      exact (set_state hp hid ho t he h1).mono fun e w' ⟨he, hw⟩ => ⟨he, hw ▸ hh.same⟩

theorem gets {w : World} {p : Nat} {most : Int} {s : PS} {S : Nat → Prop} (h : PoolIs w p most s S) {id : Int} (hid : (Lit.int .u64 id).wf = true) :
    Calls Try.prog 12 #[.pointer (some ⟨p, 0, none⟩), .int .u64 id] w fun e w' => e = .returned (match vget s.V id with
      | none => .tuple #[.agg #[.int .u64 0, .string ⟨#[]⟩, .string ⟨#[]⟩], .bool false]
      | some x => .tuple #[.agg #[.int .u64 x.id, .string x.holder, .string x.text], .bool true]) ∧ Grew w w' := by
  obtain ⟨m, L, hp, hv, hS, hlt⟩ := h
  rw [← hv, eget_val]
  cases he : eget L id with
  | none => exact get_none hp hid he
  | some x => exact get_some hp hid he

theorem frees {w : World} {p : Nat} {most : Int} {s : PS} {S : Nat → Prop} (h : PoolIs w p most s S) (hf : s.Fit most) (hm : most ≤ 4096) :
    Calls Try.prog 11 #[.pointer (some ⟨p, 0, none⟩)] w fun e w' => e = .returned (.int .i64 (most - s.V.length)) ∧ Grew w w' := by
  obtain ⟨m, L, hp, hv, hS, hlt⟩ := h
  have hlen : s.V.length = L.length := by rw [← hv]; simp
  have := hf.len
  rw [hlen]
  exact free_any hp (by omega) hm (by omega)

theorem news {n : Int} (h1 : 1 ≤ n) (h2 : n ≤ 4096) (w : World) :
    Calls Try.prog 8 #[.int .i64 n] w fun e w' => e = .returned (.tuple #[.pointer (some ⟨w.heap.size + 1, 0, none⟩), .int .i64 0]) ∧
      PoolIs w' (w.heap.size + 1) n ⟨0, []⟩ (fun k => k = w.heap.size + 1 ∨ k = w.heap.size) ∧ Grew w w' := by
  refine (new_ok n h1 h2 w).mono fun e w' ⟨he, hp, hg, hs⟩ => ⟨he, ⟨w.heap.size, [], hp, rfl, ?_, ?_⟩, hg⟩
  · rintro k (h | h | ⟨e, he, _⟩)
    · exact .inl h
    · exact .inr h
    · cases he
  · rintro k (h | h) <;> omega

set_option maxHeartbeats 400000 in
theorem give_nil {w : World} {p m : Nat} {most last : Int} {L : List Ent} (hp : PoolAt w p m most last L) (h : ByteArray) :
    Calls Try.prog 15 #[.pointer (some ⟨p, 0, none⟩), .string h, .slice none 0 0] w fun e w' => e = .returned (.int .i64 0) ∧ Grew w w' := by
  have m1 := fun w => run_eql_map_nil (P := Try.prog) w 55 30 59 (some m) Try.underlying55
  have hmm := @run_makeMap Try.prog
  have g2 := hp.c2
  clear hp
  go_enter Try.func15, Try.ntmps15
  go_wp2
  go_loopw [26] (fun i wr => i = .int .i64 0 ∧ Grew w wr) (fun _ _ => 0)
  case atStart => exact ⟨rfl, (Off.refl _ _).alloc _⟩
  case round =>
    obtain ⟨rfl, hG⟩ := hrel
    have HG := Lib.hid hG
    clear hG
    go_wp2
    go_loopw [51] (fun i wr => i = .int .i64 0 ∧ Grew w wr) (fun _ _ => 0)
    case atStart => exact ⟨rfl, HG.out⟩
    case round =>
      obtain ⟨rfl, hG⟩ := hrel
      have HG := Lib.hid hG
      clear hG
      go_wp2
      go_ret
      exact ⟨rfl, HG.out⟩

/-- a slice of numbers, to be read -/
def IdsAt (w : World) (v : Value) (ids : List Int) : Prop :=
  (v = .slice none 0 0 ∧ ids = []) ∨ ∃ b o cap, v = .slice (some ⟨b, o, none⟩) ids.length cap ∧ b < w.heap.size ∧ ∀ j, j < ids.length → w.cell? ⟨b, o + j, none⟩ = some (.int .u64 (ids.getD j 0))

theorem gives {w : World} {p : Nat} {most : Int} {s : PS} {S : Nat → Prop} (h : PoolIs w p most s S) (ho : ByteArray) {v : Value} {ids : List Int} (hw : ∀ id ∈ ids, (Lit.int .u64 id).wf = true) (hi : IdsAt w v ids)
    (hb : ∀ k, v.ownBlock = some k → ¬ S k) (hlen : ids.length ≤ 9223372036854775807) :
    Calls Try.prog 15 #[.pointer (some ⟨p, 0, none⟩), .string ho, v] w fun e w' => e = .returned (.int .i64 (psGive s ho ids).1) ∧ PoolTo w p most (psGive s ho ids).2 S w' := by
  obtain ⟨m, L, hp, hv, hS, hlt⟩ := h
  have hh : PoolIs w p most s S := ⟨m, L, hp, hv, hS, hlt⟩
  unfold psGive
  rw [← hv, giveErr_val]
  rcases hi with ⟨rfl, rfl⟩ | ⟨b, o, cap, rfl, hbl, hr⟩
  · refine (give_nil hp ho).mono fun e w' ⟨he, hw⟩ => ⟨he, ?_⟩
    have : (if giveErr L ho [] [] = 0 then PS.mk s.last (List.foldl vdel (List.map Ent.val L) []) else s) = s := by
      rw [if_pos (show giveErr L ho [] [] = 0 from rfl), List.foldl_nil, hv]
    rw [this]
    exact hh.grew hw
  · have hbb : ¬ S b := hb b rfl
    refine (give_any hp ho hw hr (fun hk => hbb (hS b hk)) hbl hlen).mono fun e w' ⟨he, hP, hO⟩ => ⟨he, S, ?_, fun _ h => .inl h, hO.mono fun k _ hk => hS k hk⟩
    by_cases h0 : giveErr L ho ids [] = 0
    · rw [if_pos h0] at hP ⊢
      refine ⟨m, _, hP, by rw [edels_val], fun k hk => hS k (hk.imp (fun h => h) (Or.imp (fun h => h) ?_)), fun k hk => Nat.lt_of_lt_of_le (hlt k hk) hO.size⟩
      rintro ⟨e, he, rfl⟩
      exact ⟨e, (edels_sub ids L).subset he, rfl⟩
    · rw [if_neg h0] at hP ⊢
      exact ⟨m, L, hP, hv, hS, fun k hk => Nat.lt_of_lt_of_le (hlt k hk) hO.size⟩

end Go.Proofs.Ytagdolkfefbohaa
