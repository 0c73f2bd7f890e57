/- 'PoolOne': its state in memory, and what the calls do to it. -/
import Derived.Test.YtagdolkfefbohaaHeld2
import Derived.Test.YtagdolkfefbohaaApart
import Derived.Test.YtagdolkfefbohaaBase5
namespace Go.Proofs.Ytagdolkfefbohaa
open Go.RowKit Stv

def K9 : KeyC Try.prog 9 ByteArray := strKey Try.underlying9
def onesS (W : List ByteArray) : List (ByteArray × Value) := W.map fun s => (s, .int .i64 1)
def wput : List ByteArray → ByteArray → List ByteArray
  | [], k => [k]
  | a :: r, k => if a = k then a :: r else a :: wput r k

theorem onesS_put (W : List ByteArray) (k : ByteArray) : mput (onesS W) k (.int .i64 1) = onesS (wput W k) := by
  induction W with
  | nil => rfl
  | cons a r ih =>
    unfold onesS at ih ⊢
    simp only [List.map_cons, mput, wput]
    by_cases h : a = k
    · subst h; simp
    · rw [if_neg h, if_neg h, ih]; rfl
theorem wput_mem (W : List ByteArray) (k : ByteArray) : k ∈ wput W k := by
  induction W with
  | nil => simp [wput]
  | cons a r ih =>
    simp only [wput]; split
    · rename_i h; simp [h]
    · simp [ih]
theorem wput_sub (W : List ByteArray) (k : ByteArray) : ∀ x ∈ W, x ∈ wput W k := by
  intro x hx
  induction W with
  | nil => cases hx
  | cons a r ih =>
    simp only [wput]; split
    · exact hx
    · rcases List.mem_cons.1 hx with rfl | hx
      · simp
      · simp [ih hx]
theorem ones_put {ids : List Int} {i : Int} (h : i ∉ ids) : mput (ones ids) i (.int .i64 1) = ones (ids ++ [i]) := by
  have hmg : mget (ones ids) i = none := by rw [ones_get, if_neg h]
  rw [mput_none (mget_none_iff.1 hmg), ones_snoc]

/-- a pool, and whom the steps named; all newer than w0; the pool's blocks lie below B -/
def OneAt (w0 wr : World) (B p bW : Nat) (n : Int) (s : PS) (W : List ByteArray) : Prop :=
  ∃ S, PoolIs wr p n s S ∧ (∀ k, S k → w0.heap.size ≤ k ∧ k ≠ bW ∧ k < B) ∧ w0.heap.size ≤ bW ∧ MapIs K9 wr bW (onesS W) ∧ Grew w0 wr

section
variable {w0 wr w2 : World} {B p bW : Nat} {n : Int} {s : PS} {W : List ByteArray}

theorem OneAt.grew (h : OneAt w0 wr B p bW n s W) (hg : Grew wr w2) : OneAt w0 w2 B p bW n s W := by
  obtain ⟨S, h1, h2, h3, h4, h5⟩ := h
  exact ⟨S, h1.off hg fun _ _ h => h, h2, h3, hg.map h4 fun h => h, h5.trans hg⟩
theorem OneAt.now (h : OneAt w0 wr B p bW n s W) : OneAt w0 wr wr.heap.size p bW n s W := by
  obtain ⟨S, h1, h2, h3, h4, h5⟩ := h
  refine ⟨S, h1, fun k hk => ?_, h3, h4, h5⟩
  obtain ⟨_, _, _, _, _, hlt⟩ := h1
  exact ⟨(h2 k hk).1, (h2 k hk).2.1, hlt k hk⟩
theorem OneAt.base (h : OneAt w0 wr B p bW n s W) : Grew w0 wr := by obtain ⟨_, _, _, _, _, h⟩ := h; exact h
theorem OneAt.map (h : OneAt w0 wr B p bW n s W) : MapIs K9 wr bW (onesS W) := by obtain ⟨_, _, _, _, h, _⟩ := h; exact h
theorem OneAt.low (h : OneAt w0 wr B p bW n s W) : w0.heap.size ≤ bW := by obtain ⟨_, _, _, h, _⟩ := h; exact h
theorem OneAt.put (h : OneAt w0 wr B p bW n s W) {k : ByteArray} (hm : MapIs K9 w2 bW (mput (onesS W) k (.int .i64 1))) (ht : wr.mapTurned w2 bW) : OneAt w0 w2 B p bW n s (wput W k) := by
  obtain ⟨S, h1, h2, h3, h4, h5⟩ := h
  refine ⟨S, h1.off ((Off.refl (fun q => q = bW) wr).turned ht (.inl rfl)) fun k hk e => (h2 k hk).2.1 e, h2, h3, by rw [← onesS_put]; exact hm, h5.turned ht (.inr h3)⟩

theorem one_does (h : OneAt w0 wr B p bW n s W) (hf : s.Fit n) (hl : s.last ≤ 1000000) {x : StepV} (hx : StepOk w0 x) {v : Value} (hv : x.val = v) :
    Calls Try.prog 9 #[.pointer (some ⟨p, 0, none⟩), v] wr fun e w' => e = .returned (.tuple #[.int .u64 (psStep n s x).1.1, .int .i64 (psStep n s x).1.2]) ∧ OneAt w0 w' w'.heap.size p bW n (psStep n s x).2 W ∧ Off (fun k => k < B) wr w' := by
  obtain ⟨S, h1, h2, h3, h4, h5⟩ := h
  subst hv
  refine (does_any h1 hf hl (hx.grew h5)).mono fun e w' ⟨he, S', hp, hS, ho⟩ => ⟨he, OneAt.now (B := w'.heap.size) ⟨S', hp, fun k hk => ?_, h3, ho.map h4 fun hb => (h2 bW hb).2.1 rfl, h5.next ho fun i hi => .inr (h2 i hi).1⟩, ho.mono fun i _ hi => (h2 i hi).2.2⟩
  have hlt : k < w'.heap.size := by obtain ⟨_, _, _, _, _, hlt⟩ := hp; exact hlt k hk
  rcases hS k hk with h | h
  · exact ⟨(h2 k h).1, (h2 k h).2.1, hlt⟩
  · have := h4.lt
    exact ⟨Nat.le_trans h5.size h, by omega, hlt⟩

theorem one_held (h : OneAt w0 wr B p bW n s W) (hf : s.Fit n) (hn : n ≤ 4096) (ho : ByteArray) :
    Calls Try.prog 18 #[.pointer (some ⟨p, 0, none⟩), .string ho] wr (HeldPost wr (vheld s.V ho)) := by
  obtain ⟨S, ⟨m, L, hp, hv, hS, hlt⟩, _⟩ := h
  have hlen : s.V.length = L.length := by rw [← hv]; simp
  have := hf.len
  rw [← hv]
  exact held_any hp (by omega) (fun e he => hp.map.keys _ (List.mem_map.2 ⟨e, he, rfl⟩)) ho

theorem one_wf (h : OneAt w0 wr B p bW n s W) : ∀ x ∈ s.V, (Lit.int .u64 x.id).wf = true := by
  obtain ⟨S, ⟨m, L, hp, hv, hS, hlt⟩, _⟩ := h
  intro x hx
  rw [← hv] at hx
  obtain ⟨e, he, rfl⟩ := List.mem_map.1 hx
  exact hp.map.keys _ (List.mem_map.2 ⟨e, he, rfl⟩)

theorem one_get (h : OneAt w0 wr B p bW n s W) {id : Int} {b : Buf} (hb : vget s.V id = some b) :
    Calls Try.prog 12 #[.pointer (some ⟨p, 0, none⟩), .int .u64 id] wr fun e w' => e = .returned (.tuple #[.agg #[.int .u64 b.id, .string b.holder, .string b.text], .bool true]) ∧ Grew wr w' := by
  obtain ⟨hm, hi⟩ := vget_mem hb
  have hid := one_wf h b hm
  rw [hi] at hid
  obtain ⟨S, h1, _⟩ := h
  refine (gets h1 hid).mono fun e w' ⟨he, hg⟩ => ⟨?_, hg⟩
  rw [he, hb]

theorem free_drew1 {w : World} {p m : Nat} {most last : Int} {L : List Ent} (hp : PoolAt w p m most last L) (h0 : 0 ≤ most) (h1 : most ≤ 4096) (hL : L.length ≤ 4096) :
    Calls Try.prog 11 #[.pointer (some ⟨p, 0, none⟩)] w fun e w' => e = .returned (.int .i64 (most - L.length)) ∧ ∃ n, w' = w.drewN n := by
  have hl : ∀ n, (Builtin.len_ #[55] 3 #[.map (some m)]).run Try.prog (w.drewN n) = .ok (.int .i64 (L.length : Int)) (w.drewN n) := fun n => by
    have := (hp.map.of_block (w' := w.drewN n) rfl).len (t := 55) (e := 59) Try.underlying55 3
    simpa using this
  have g0 := hp.c0
  have g2 := hp.c2
  clear hp
  go_enter Try.func11, Try.ntmps11
  go_wp2
  go_quiet (fail)
  go_wp2
  go_ret
  exact ⟨rfl, _, rfl⟩

theorem one_free (h : OneAt w0 wr B p bW n s W) (hf : s.Fit n) (hm : n ≤ 4096) (d : Nat) :
    Calls Try.prog 11 #[.pointer (some ⟨p, 0, none⟩)] (wr.drewN d) fun e w' => e = .returned (.int .i64 (n - s.V.length)) ∧ ∃ n', w' = (wr.drewN d).drewN n' := by
  obtain ⟨S, ⟨m, L, hp, hv, hS, hlt⟩, _⟩ := h
  have hlen : s.V.length = L.length := by rw [← hv]; simp
  have := hf.len
  rw [hlen]
  exact free_drew1 (hp.off ((Off.refl (fun _ => False) wr).drewN d) fun _ _ h => h) (by omega) hm (by omega)
theorem one_freeg (h : OneAt w0 wr B p bW n s W) (hf : s.Fit n) (hm : n ≤ 4096) :
    Calls Try.prog 11 #[.pointer (some ⟨p, 0, none⟩)] wr fun e w' => e = .returned (.int .i64 (n - s.V.length)) ∧ Grew wr w' := by
  obtain ⟨S, h1, _⟩ := h
  exact frees h1 hf hm
end

theorem take_last {n : Int} {s : PS} {x : StepV} (h0 : x.doo = 0) (h1 : (psStep n s x).1.2 = 0) : (psStep n s x).1.1 = s.last + 1 ∧ (psStep n s x).2.last = s.last + 1 := by
  unfold psStep at h1 ⊢
  rw [if_pos h0] at h1 ⊢
  unfold psTake at h1 ⊢
  split at h1
  · cases h1
  · split at h1
    · cases h1
    · split at h1
      · cases h1
      · rw [if_neg ‹_›, if_neg ‹_›, if_neg ‹_›]; exact ⟨rfl, rfl⟩
end Go.Proofs.Ytagdolkfefbohaa
