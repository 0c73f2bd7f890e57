/- 'Connect' by what it answers, at a table that the call itself has made. -/
import Derived.Test.YtnpfbdekomhonaaTab9
import Derived.Test.YtnpfbdekomhonaaConn2
namespace Go.Proofs.Ytnpfbdekomhonaa
open Go.RowKit Stv
section
variable {w0 w w' : World} {t : Nat} {s : TS}

theorem tConnect_err (h : TabIs w0 w t s) (hl : s.own.length ≤ 1000000) {fd : Int} (hfd : (Lit.int .i64 fd).wf = true) {f : FileV} (hf : mget s.F fd = some f) (hk : f.kind = 1) {d : DeskV} (hs : mget s.S f.id = some d) (o ip port draw : Int)
    {c : Int} (hc : connAsk s.own d o ip port = c) (hc0 : c ≠ 0) :
    Calls Try.prog 17 #[.pointer (some ⟨t, 0, none⟩), .int .i64 fd, .int .u32 o, .agg #[.int .u32 ip, .int .u16 port], .int .u16 draw] w fun e w' => e = .returned (.tuple #[.agg #[.int .u32 0, .int .u16 0, .int .u32 0, .int .u16 0], .int .i64 c]) ∧ TabIs w0 w' t s := by
  have hid := h.idwf hs
  have h' := h
  obtain ⟨fm, sm, pp, pm, ownv, L, ht, hv, hb, hg⟩ := h
  obtain ⟨b, hb'⟩ := sget_of hv hs
  exact (connect_err ht hl hfd hf hk hid hb' o ip port draw hc hc0).mono fun e w' ⟨he, hg2⟩ => ⟨he, h'.grew hg2⟩

/-- the place of a socket that connects is b1, and the ports are P1 -/
theorem tConnect (h : TabIs w0 w t s) (hl : s.own.length ≤ 1000000) {fd : Int} (hfd : (Lit.int .i64 fd).wf = true) {f : FileV} (hf : mget s.F fd = some f) (hk : f.kind = 1) {d : DeskV} (hs : mget s.S f.id = some d) (o ip port : Int) {draw : Int} (hd0 : 0 ≤ draw) (hd1 : draw ≤ 65535)
    (hc : connAsk s.own d o ip port = 0) (hp : d.proto = 1 ∨ d.proto = 2) {b1 : Bnd} {P1 : List (Int × Bnd)}
    (hpl : (d.is ≠ 0 ∧ b1 = d.b ∧ P1 = s.P) ∨ (d.is = 0 ∧ mayErr s.P f.id = 0 ∧ freeB s.P (lendB ⟨d.proto, o, 0, false⟩ draw 0) = true ∧ b1 = lendB ⟨d.proto, o, 0, false⟩ draw 0 ∧ P1 = mput s.P f.id b1)) :
    Calls Try.prog 17 #[.pointer (some ⟨t, 0, none⟩), .int .i64 fd, .int .u32 o, .agg #[.int .u32 ip, .int .u16 port], .int .u16 draw] w fun e w' =>
      e = .returned (.tuple #[.agg #[.int .u32 (connDesk d b1 o ip port).fip, .int .u16 b1.port, .int .u32 ip, .int .u16 port], .int .i64 0]) ∧ TabIs w0 w' t { s with S := mput s.S f.id (connDesk d b1 o ip port), P := P1 } := by
  have hid := h.idwf hs
  obtain ⟨fm, sm, pp, pm, ownv, L, ht, hv, hb, hg⟩ := h
  obtain ⟨b, hb'⟩ := sget_of hv hs
  refine (connect_go ht hl hfd hf hk hid hb' o ip port hd0 hd1 hc hp).mono fun e w' hpost => ?_
  have hS : ∀ k, (k = pm ∨ k = b) → w0.heap.size ≤ k := by
    rintro k (rfl | rfl)
    · exact hb k (.inr (.inr (.inr (.inr (.inl rfl)))))
    · exact hb k (.inr (.inr (.inr (.inr (.inr (.inr ⟨_, mget_mem hb', rfl⟩))))))
  rcases hpost with ⟨c, hc0, hz, hw, he, hg2⟩ | ⟨b2, P2, hpl2, he, ht', ho⟩
  · exfalso
    rcases hpl with ⟨hn, _⟩ | ⟨_, hm, hf0, _⟩
    · exact hn hz
    · rcases hw with ⟨hm2, _⟩ | ⟨_, hall, _⟩
      · exact hm2 hm
      · rw [hall 0 (by decide)] at hf0; cases hf0
  · have hsame : b2 = b1 ∧ P2 = P1 := by
      rcases hpl with ⟨hn, rfl, rfl⟩ | ⟨hz, hm, hf0, rfl, rfl⟩
      · rcases hpl2 with ⟨_, e1, e2⟩ | ⟨hz, _⟩
        · exact ⟨e1, e2⟩
        · exact absurd hz hn
      · rcases hpl2 with ⟨hn, _⟩ | ⟨_, _, i, hi, hf, hmin, e1, e2⟩
        · exact absurd hz hn
        · have : i = 0 := by
            cases i with
            | zero => rfl
            | succ j => rw [hmin 0 (by omega)] at hf0; cases hf0
          subst this
          subst e1
          exact ⟨rfl, e2⟩
    obtain ⟨rfl, rfl⟩ := hsame
    refine ⟨he, TabIs.step { s with S := mput s.S f.id (connDesk d b2 o ip port), P := P2 } hb hg ht' ?_ (put_blocks hb') ho hS⟩
    rw [← hv, ← vmap_put]
end
end Go.Proofs.Ytnpfbdekomhonaa
