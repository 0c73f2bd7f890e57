/- A table that the call itself has made: as a list; the calls by what they answer. -/
import Derived.Test.YtnpfbdekomhonaaTab7
import Derived.Test.YtnpfbdekomhonaaTab8
namespace Go.Proofs.Ytnpfbdekomhonaa
open Go.RowKit Stv

/-- a table as lists -/
structure TS where
  most : Int
  last : Int
  own : List Int
  F : List (Int × FileV)
  S : List (Int × DeskV)
  P : List (Int × Bnd)

def TabIs (w0 w : World) (t : Nat) (s : TS) : Prop :=
  ∃ fm sm pp pm ownv L, TabAt w t fm sm pp pm ownv s.most s.last s.own s.F L s.P ∧ vmap (·.2) L = s.S ∧ (∀ k, tabBlks t fm sm pp pm ownv L k → w0.heap.size ≤ k) ∧ Grew w0 w

section
variable {w0 w w' : World} {t : Nat} {s : TS}

theorem TabIs.grew (h : TabIs w0 w t s) (hg : Grew w w') : TabIs w0 w' t s := by
  obtain ⟨fm, sm, pp, pm, ownv, L, h1, h2, h3, h4⟩ := h
  exact ⟨fm, sm, pp, pm, ownv, L, h1.grew hg, h2, h3, h4.trans hg⟩
theorem TabIs.base (h : TabIs w0 w t s) : Grew w0 w := by
  obtain ⟨_, _, _, _, _, _, _, _, _, h⟩ := h; exact h
theorem TabIs.sUniq (h : TabIs w0 w t s) : Uniq s.S := by
  obtain ⟨_, _, _, _, _, L, h1, h2, _⟩ := h
  rw [← h2]
  have := h1.sUniq
  unfold Uniq at this ⊢
  rwa [vmap_keys]
theorem TabIs.fUniq (h : TabIs w0 w t s) : Uniq s.F := by
  obtain ⟨_, _, _, _, _, L, h1, _⟩ := h
  exact h1.fUniq
/-- the number of an entry that is kept -/
theorem TabIs.idwf (h : TabIs w0 w t s) {id : Int} {d : DeskV} (hs : mget s.S id = some d) : (Lit.int .u64 id).wf = true := by
  obtain ⟨_, _, _, _, _, L, h1, h2, _⟩ := h
  rw [← h2] at hs
  have hm := mget_mem hs
  obtain ⟨x, hx, e⟩ := List.mem_map.1 hm
  have := h1.socks.keys (id, skPtr x.2) (List.mem_map.2 ⟨x, hx, by cases e; rfl⟩)
  exact this

theorem sget_of {L : List (Int × (Nat × DeskV))} {S : List (Int × DeskV)} (h : vmap (·.2) L = S) {id : Int} {d : DeskV} (hs : mget S id = some d) : ∃ b, mget L id = some (b, d) := by
  rw [← h, vmap_get] at hs
  obtain ⟨x, hx, rfl⟩ := Option.map_eq_some_iff.1 hs
  exact ⟨x.1, hx⟩
theorem sget_none {L : List (Int × (Nat × DeskV))} {S : List (Int × DeskV)} (h : vmap (·.2) L = S) {id : Int} (hs : mget S id = none) : mget L id = none := by
  rw [← h, vmap_get] at hs
  simpa using hs

/-- behind a call -/
theorem TabIs.step {fm sm pp pm : Nat} {ownv : Value} {L L' : List (Int × (Nat × DeskV))} {S : Nat → Prop} (s' : TS) (hb : ∀ k, tabBlks t fm sm pp pm ownv L k → w0.heap.size ≤ k) (hg : Grew w0 w)
    (h' : TabAt w' t fm sm pp pm ownv s'.most s'.last s'.own s'.F L' s'.P) (hv : vmap (·.2) L' = s'.S) (hL : ∀ e ∈ L', (∃ e0 ∈ L, e0.2.1 = e.2.1) ∨ w0.heap.size ≤ e.2.1) (ho : Off S w w') (hS : ∀ k, S k → w0.heap.size ≤ k) : TabIs w0 w' t s' := by
  refine ⟨fm, sm, pp, pm, ownv, L', h', hv, fun k hk => ?_, hg.next ho fun i hi => .inr (hS i hi)⟩
  rcases hk with h | h | h | h | h | h | ⟨e, he, rfl⟩
  · exact hb k (.inl h)
  · exact hb k (.inr (.inl h))
  · exact hb k (.inr (.inr (.inl h)))
  · exact hb k (.inr (.inr (.inr (.inl h))))
  · exact hb k (.inr (.inr (.inr (.inr (.inl h)))))
  · exact hb k (.inr (.inr (.inr (.inr (.inr (.inl h))))))
  · rcases hL e he with ⟨e0, h0, e1⟩ | h
    · exact hb _ (.inr (.inr (.inr (.inr (.inr (.inr ⟨e0, h0, e1⟩))))))
    · exact h

theorem same_blocks {L : List (Int × (Nat × DeskV))} {B : Nat} : ∀ e ∈ L, (∃ e0 ∈ L, e0.2.1 = e.2.1) ∨ B ≤ e.2.1 := fun e he => .inl ⟨e, he, rfl⟩
theorem put_blocks {L : List (Int × (Nat × DeskV))} {B : Nat} {id : Int} {b : Nat} {d d' : DeskV} (h : mget L id = some (b, d)) : ∀ e ∈ mput L id (b, d'), (∃ e0 ∈ L, e0.2.1 = e.2.1) ∨ B ≤ e.2.1 := fun e he => by
  rcases mem_mput he with rfl | he
  · exact .inl ⟨_, mget_mem h, rfl⟩
  · exact .inl ⟨e, he, rfl⟩

theorem tNew {n : Int} (h1 : 1 ≤ n) (h2 : n ≤ 64) {a : Addr} {m cap : Nat} {own : List Int} (hm : m = own.length) (h : OwnRow w 22 1 (.slice (some a) m cap) own.length (own.map (Value.int .u32))) (hl : own.length ≤ 1000) (h0 : own.any (· == 0) = false) (hg : Grew w0 w) :
    Calls Try.prog 7 #[.int .i64 n, .slice (some a) m cap] w fun e w' => ∃ t, e = .returned (.tuple #[.pointer (some ⟨t, 0, none⟩), .int .i64 0]) ∧ TabIs w0 w' t ⟨n, 0, own, [], [], []⟩ :=
  (new_ok h1 h2 hm h hl h0).mono fun _ _ ⟨t, fm, sm, pp, pm, v, he, ht, hg2, hb⟩ => ⟨t, he, fm, sm, pp, pm, v, [], ht, rfl, fun k hk => Nat.le_trans hg.size (hb k hk), hg.trans hg2⟩

theorem tSocket (h : TabIs w0 w t s) (hm : (s.F.length : Int) < s.most) (hm2 : s.most ≤ 1000000) (h0 : 0 ≤ s.last) (h1 : s.last ≤ 1000000) (hn : mget s.S (s.last + 1) = none) {proto : Int} (hp : proto = 1 ∨ proto = 2) :
    Calls Try.prog 8 #[.pointer (some ⟨t, 0, none⟩), .int .u8 proto] w fun e w' => e = .returned (.tuple #[.int .i64 (lfd s.F), .int .u64 (s.last + 1), .int .i64 0]) ∧
      TabIs w0 w' t ⟨s.most, s.last + 1, s.own, mput s.F (lfd s.F) ⟨1, proto, s.last + 1, false⟩, s.S ++ [(s.last + 1, desk0 proto)], s.P⟩ := by
  obtain ⟨fm, sm, pp, pm, ownv, L, ht, hv, hb, hg⟩ := h
  refine (socket_ok ht hm hm2 h0 h1 (sget_none hv hn) hp).mono fun e w' ⟨he, b, hbb, ht', ho⟩ => ⟨he, TabIs.step ⟨s.most, s.last + 1, s.own, mput s.F (lfd s.F) ⟨1, proto, s.last + 1, false⟩, s.S ++ [(s.last + 1, desk0 proto)], s.P⟩ hb hg ht' ?_ ?_ ho ?_⟩
  · simp [vmap, ← hv]
  · intro e he
    rcases List.mem_append.1 he with he | he
    · exact .inl ⟨e, he, rfl⟩
    · have : e = (s.last + 1, b, desk0 proto) := by simpa using he
      subst this; exact .inr (Nat.le_trans hg.size hbb)
  · rintro k (rfl | rfl | rfl)
    · exact hb k (.inl rfl)
    · exact hb k (.inr (.inl rfl))
    · exact hb k (.inr (.inr (.inl rfl)))

theorem tSocket_full (h : TabIs w0 w t s) (hm : s.most ≤ s.F.length) {proto : Int} (hp : proto = 1 ∨ proto = 2) :
    Calls Try.prog 8 #[.pointer (some ⟨t, 0, none⟩), .int .u8 proto] w fun e w' => e = .returned (.tuple #[.int .i64 0, .int .u64 0, .int .i64 291]) ∧ TabIs w0 w' t s := by
  have h' := h
  obtain ⟨fm, sm, pp, pm, ownv, L, ht, hv, hb, hg⟩ := h
  exact (socket_full ht hm hp).mono fun e w' ⟨he, hg2⟩ => ⟨he, h'.grew hg2⟩
theorem tLook_full (h : TabIs w0 w t s) (hm : s.most ≤ s.F.length) :
    Calls Try.prog 41 #[.pointer (some ⟨t, 0, none⟩)] w fun e w' => e = .returned (.tuple #[.int .i64 0, .int .u64 0, .int .i64 291]) ∧ TabIs w0 w' t s := by
  have h' := h
  obtain ⟨fm, sm, pp, pm, ownv, L, ht, hv, hb, hg⟩ := h
  exact (look_full ht hm).mono fun e w' ⟨he, hg2⟩ => ⟨he, h'.grew hg2⟩
theorem tLook (h : TabIs w0 w t s) (hm : (s.F.length : Int) < s.most) (hm2 : s.most ≤ 1000000) (h0 : 0 ≤ s.last) (h1 : s.last ≤ 1000000) :
    Calls Try.prog 41 #[.pointer (some ⟨t, 0, none⟩)] w fun e w' => e = .returned (.tuple #[.int .i64 (lfd s.F), .int .u64 (s.last + 1), .int .i64 0]) ∧
      TabIs w0 w' t ⟨s.most, s.last + 1, s.own, mput s.F (lfd s.F) ⟨2, 0, s.last + 1, false⟩, s.S, s.P⟩ := by
  obtain ⟨fm, sm, pp, pm, ownv, L, ht, hv, hb, hg⟩ := h
  refine (look_ok ht hm hm2 h0 h1).mono fun e w' ⟨he, ht', ho⟩ => ⟨he, TabIs.step ⟨s.most, s.last + 1, s.own, mput s.F (lfd s.F) ⟨2, 0, s.last + 1, false⟩, s.S, s.P⟩ hb hg ht' hv same_blocks ho ?_⟩
  rintro k (rfl | rfl)
  · exact hb k (.inl rfl)
  · exact hb k (.inr (.inl rfl))

theorem tBorn (h : TabIs w0 w t s) (h0 : 0 ≤ s.last) (h1 : s.last ≤ 1000000) :
    Calls Try.prog 11 #[.pointer (some ⟨t, 0, none⟩)] w fun e w' => e = .returned (.int .u64 (s.last + 1)) ∧ TabIs w0 w' t { s with last := s.last + 1 } := by
  obtain ⟨fm, sm, pp, pm, ownv, L, ht, hv, hb, hg⟩ := h
  exact (born_any ht h0 h1).mono fun e w' ⟨he, ht', ho, _⟩ => ⟨he, TabIs.step { s with last := s.last + 1 } hb hg ht' hv same_blocks ho fun k hk => hb k (.inl hk)⟩

theorem tFile (h : TabIs w0 w t s) {fd : Int} (hfd : (Lit.int .i64 fd).wf = true) :
    Calls Try.prog 14 #[.pointer (some ⟨t, 0, none⟩), .int .i64 fd] w fun e w' => e = .returned (.tuple #[((mget s.F fd).getD ⟨0, 0, 0, false⟩).val, .bool (mget s.F fd).isSome]) ∧ Grew w w' := by
  obtain ⟨fm, sm, pp, pm, ownv, L, ht, hv, hb, hg⟩ := h
  exact file_any ht hfd

theorem tDesk (h : TabIs w0 w t s) {id : Int} {d : DeskV} (hs : mget s.S id = some d) :
    Calls Try.prog 15 #[.pointer (some ⟨t, 0, none⟩), .int .u64 id] w fun e w' => e = .returned (.tuple #[deskVal d, .bool true]) ∧ Grew w w' := by
  have hid := h.idwf hs
  obtain ⟨fm, sm, pp, pm, ownv, L, ht, hv, hb, hg⟩ := h
  obtain ⟨b, hb'⟩ := sget_of hv hs
  exact desk_some ht hid hb'

def tAcceptErr (s : TS) (d : DeskV) (id : Int) : Int :=
  if d.is = 2 then (if 0 < id ∧ mget s.S id = none then (if (s.F.length : Int) < s.most then 0 else 291) else 2) else 3

theorem acceptErr_eq {most : Int} {F : List (Int × FileV)} {L : List (Int × (Nat × DeskV))} {s : TS} (hm : s.most = most) (hF : s.F = F) (hv : vmap (·.2) L = s.S) (d : DeskV) (id : Int) : acceptErr most F L d id = tAcceptErr s d id := by
  subst hm; subst hF
  have e : mget s.S id = (mget L id).map (·.2) := by rw [← hv, vmap_get]
  unfold acceptErr tAcceptErr cond
  rw [e]
  by_cases h1 : d.is = 2
  · by_cases h2 : 0 < id
    · cases h3 : mget L id with
      | none => by_cases h4 : (s.F.length : Int) < s.most <;> simp [h1, h2, h4]
      | some x => simp [h1]
    · simp [h1, h2]
  · simp [h1]

theorem tAccept_err (h : TabIs w0 w t s) {fd : Int} (hfd : (Lit.int .i64 fd).wf = true) {f : FileV} (hf : mget s.F fd = some f) (hk : f.kind = 1) {d : DeskV} (hs : mget s.S f.id = some d)
    {id : Int} (hid2 : (Lit.int .u64 id).wf = true) (p1 p2 p3 p4 : Int) {c : Int} (hc : tAcceptErr s d id = c) (hc0 : c ≠ 0) :
    Calls Try.prog 9 #[.pointer (some ⟨t, 0, none⟩), .int .i64 fd, .agg #[.int .u32 p1, .int .u16 p2, .int .u32 p3, .int .u16 p4], .int .u64 id] w fun e w' => e = .returned (.tuple #[.int .i64 0, .int .i64 c]) ∧ TabIs w0 w' t s := by
  have hid := h.idwf hs
  have h' := h
  obtain ⟨fm, sm, pp, pm, ownv, L, ht, hv, hb, hg⟩ := h
  obtain ⟨b, hb'⟩ := sget_of hv hs
  exact (accept_err ht hfd hf hk hid hb' hid2 p1 p2 p3 p4 ((acceptErr_eq rfl rfl hv d id).trans hc) hc0).mono fun e w' ⟨he, hg2⟩ => ⟨he, h'.grew hg2⟩

theorem tAccept (h : TabIs w0 w t s) {fd : Int} (hfd : (Lit.int .i64 fd).wf = true) {f : FileV} (hf : mget s.F fd = some f) (hk : f.kind = 1) {d : DeskV} (hs : mget s.S f.id = some d)
    {id : Int} (hid2 : (Lit.int .u64 id).wf = true) (p1 p2 p3 p4 : Int) (hc : tAcceptErr s d id = 0) (hn : mget s.S id = none) (hle : id ≤ s.last) (hF : s.F.length ≤ 1000000) :
    Calls Try.prog 9 #[.pointer (some ⟨t, 0, none⟩), .int .i64 fd, .agg #[.int .u32 p1, .int .u16 p2, .int .u32 p3, .int .u16 p4], .int .u64 id] w fun e w' => e = .returned (.tuple #[.int .i64 (lfd s.F), .int .i64 0]) ∧
      TabIs w0 w' t ⟨s.most, s.last, s.own, mput s.F (lfd s.F) ⟨1, 2, id, false⟩, s.S ++ [(id, childDesk ⟨p1, p2, p3, p4⟩)], s.P⟩ := by
  have hid := h.idwf hs
  obtain ⟨fm, sm, pp, pm, ownv, L, ht, hv, hb, hg⟩ := h
  obtain ⟨b, hb'⟩ := sget_of hv hs
  refine (accept_ok ht hfd hf hk hid hb' hid2 p1 p2 p3 p4 ((acceptErr_eq rfl rfl hv d id).trans hc) (sget_none hv hn) hle hF).mono fun e w' ⟨he, b2, hbb, ht', ho⟩ => ⟨he, TabIs.step ⟨s.most, s.last, s.own, mput s.F (lfd s.F) ⟨1, 2, id, false⟩, s.S ++ [(id, childDesk ⟨p1, p2, p3, p4⟩)], s.P⟩ hb hg ht' ?_ ?_ ho ?_⟩
  · simp [vmap, ← hv]
  · intro e he
    rcases List.mem_append.1 he with he | he
    · exact .inl ⟨e, he, rfl⟩
    · have : e = (id, b2, childDesk ⟨p1, p2, p3, p4⟩) := by simpa using he
      subst this; exact .inr (Nat.le_trans hg.size hbb)
  · rintro k (rfl | rfl | rfl)
    · exact hb k (.inl rfl)
    · exact hb k (.inr (.inl rfl))
    · exact hb k (.inr (.inr (.inl rfl)))

theorem tBind_err (h : TabIs w0 w t s) (hl : s.own.length ≤ 1000000) {fd : Int} (hfd : (Lit.int .i64 fd).wf = true) {f : FileV} (hf : mget s.F fd = some f) (hk : f.kind = 1) {d : DeskV} (hs : mget s.S f.id = some d) (ip port : Int)
    {c : Int} (hc : bindAsk s.own d ip port = c) (hc0 : c ≠ 0) :
    Calls Try.prog 12 #[.pointer (some ⟨t, 0, none⟩), .int .i64 fd, .agg #[.int .u32 ip, .int .u16 port]] w fun e w' => e = .returned (.int .i64 c) ∧ TabIs w0 w' t s := by
  have hid := h.idwf hs
  have h' := h
  obtain ⟨fm, sm, pp, pm, ownv, L, ht, hv, hb, hg⟩ := h
  obtain ⟨b, hb'⟩ := sget_of hv hs
  exact (tbind_err ht hl hfd hf hk hid hb' ip port hc hc0).mono fun e w' ⟨he, hg2⟩ => ⟨he, h'.grew hg2⟩

/-- a place is bound, or it is not -/
def tBound (s : TS) (id : Int) (d : DeskV) (bd : Bnd) : TS :=
  if bindErr s.P id bd = 0 then { s with S := mput s.S id { d with is := 1, b := bd }, P := mput s.P id bd } else s

theorem tBind (h : TabIs w0 w t s) (hl : s.own.length ≤ 1000000) {fd : Int} (hfd : (Lit.int .i64 fd).wf = true) {f : FileV} (hf : mget s.F fd = some f) (hk : f.kind = 1) {d : DeskV} (hs : mget s.S f.id = some d) (ip port : Int)
    (hc : bindAsk s.own d ip port = 0) (hp : d.proto = 1 ∨ d.proto = 2) (hport : port ≠ 0) :
    Calls Try.prog 12 #[.pointer (some ⟨t, 0, none⟩), .int .i64 fd, .agg #[.int .u32 ip, .int .u16 port]] w fun e w' => e = .returned (.int .i64 (bindErr s.P f.id ⟨d.proto, ip, port, d.share⟩)) ∧ TabIs w0 w' t (tBound s f.id d ⟨d.proto, ip, port, d.share⟩) := by
  have hid := h.idwf hs
  obtain ⟨fm, sm, pp, pm, ownv, L, ht, hv, hb, hg⟩ := h
  obtain ⟨b, hb'⟩ := sget_of hv hs
  refine (tbind_go ht hl hfd hf hk hid hb' ip port hc hp hport).mono fun e w' ⟨he, ht', ho⟩ => ⟨he, ?_⟩
  have hS : ∀ k, (k = pm ∨ k = b) → w0.heap.size ≤ k := by
    rintro k (rfl | rfl)
    · exact hb k (.inr (.inr (.inr (.inr (.inl rfl)))))
    · exact hb k (.inr (.inr (.inr (.inr (.inr (.inr ⟨_, mget_mem hb', rfl⟩))))))
  unfold tBound
  split
  · rename_i hz
    rw [if_pos hz, if_pos hz] at ht'
    refine TabIs.step { s with S := _, P := _ } hb hg ht' ?_ (put_blocks hb') ho hS
    rw [← hv, ← vmap_put]
  · rename_i hz
    rw [if_neg hz, if_neg hz] at ht'
    exact TabIs.step s hb hg ht' hv same_blocks ho hS

theorem tListen (h : TabIs w0 w t s) {fd : Int} (hfd : (Lit.int .i64 fd).wf = true) {f : FileV} (hf : mget s.F fd = some f) (hk : f.kind = 1) {d : DeskV} (hs : mget s.S f.id = some d) :
    Calls Try.prog 13 #[.pointer (some ⟨t, 0, none⟩), .int .i64 fd] w fun e w' => e = .returned (.int .i64 (listenErr d)) ∧ TabIs w0 w' t (if listenErr d = 0 then { s with S := mput s.S f.id { d with is := 2 } } else s) := by
  have hid := h.idwf hs
  obtain ⟨fm, sm, pp, pm, ownv, L, ht, hv, hb, hg⟩ := h
  obtain ⟨b, hb'⟩ := sget_of hv hs
  refine (listen_any ht hfd hf hk hid hb').mono fun e w' ⟨he, ht', ho⟩ => ⟨he, ?_⟩
  have hS : ∀ k, k = b → w0.heap.size ≤ k := by
    rintro k rfl
    exact hb k (.inr (.inr (.inr (.inr (.inr (.inr ⟨_, mget_mem hb', rfl⟩))))))
  split
  · rename_i hz
    rw [if_pos hz] at ht'
    refine TabIs.step { s with S := _ } hb hg ht' ?_ (put_blocks hb') ho hS
    rw [← hv, ← vmap_put]
  · rename_i hz
    rw [if_neg hz] at ht'
    exact TabIs.step s hb hg ht' hv same_blocks ho hS
end
end Go.Proofs.Ytnpfbdekomhonaa
