/- 'Connect' of the table. -/
import Derived.Test.YtnpfbdekomhonaaConn1
import Derived.Test.YtnpfbdekomhonaaLend
import Derived.Test.YtnpfbdekomhonaaTab7
import Derived.Deep.DeepCutAuto
namespace Go.Proofs.Ytnpfbdekomhonaa
open Go.RowKit Stv

theorem lend_err {w : World} {pp pm : Nat} {P : List (Int × Bnd)} (hP : PortsAt w pp pm P) {id : Int} (hid : (Lit.int .u64 id).wf = true) {b : Bnd} (hk : b.kind = 1 ∨ b.kind = 2) {draw : Int} (hd0 : 0 ≤ draw) (hd1 : draw ≤ 65535) (hm : mayErr P id ≠ 0) :
    Calls Try.prog 45 #[.pointer (some ⟨pp, 0, none⟩), .int .u64 id, b.val, .int .u16 draw] w fun e w' => e = .returned (.tuple #[.int .u16 0, .int .i64 (mayErr P id)]) ∧ Grew w w' :=
  (lend_any hP hid hk hd0 hd1).mono fun e w' h => by
    rcases h with ⟨_, he, hg⟩ | ⟨h0, _⟩ | ⟨h0, _⟩
    · exact ⟨he, hg⟩
    · exact absurd h0 hm
    · exact absurd h0 hm
theorem lend_none {w : World} {pp pm : Nat} {P : List (Int × Bnd)} (hP : PortsAt w pp pm P) {id : Int} (hid : (Lit.int .u64 id).wf = true) {b : Bnd} (hk : b.kind = 1 ∨ b.kind = 2) {draw : Int} (hd0 : 0 ≤ draw) (hd1 : draw ≤ 65535) (hm : mayErr P id = 0) (hn : ∀ i : Nat, i < 28232 → freeB P (lendB b draw i) = false) :
    Calls Try.prog 45 #[.pointer (some ⟨pp, 0, none⟩), .int .u64 id, b.val, .int .u16 draw] w fun e w' => e = .returned (.tuple #[.int .u16 0, .int .i64 220]) ∧ Grew w w' :=
  (lend_any hP hid hk hd0 hd1).mono fun e w' h => by
    rcases h with ⟨h0, _⟩ | ⟨_, i, hi, hf, _⟩ | ⟨_, _, he, hg⟩
    · exact absurd hm h0
    · rw [hn i hi] at hf; cases hf
    · exact ⟨he, hg⟩
theorem lend_one {w : World} {pp pm : Nat} {P : List (Int × Bnd)} (hP : PortsAt w pp pm P) {id : Int} (hid : (Lit.int .u64 id).wf = true) {b : Bnd} (hk : b.kind = 1 ∨ b.kind = 2) {draw : Int} (hd0 : 0 ≤ draw) (hd1 : draw ≤ 65535) (hm : mayErr P id = 0) {i : Nat} (hi : i < 28232) (hf : freeB P (lendB b draw i) = true) (hmin : ∀ j, j < i → freeB P (lendB b draw j) = false) :
    Calls Try.prog 45 #[.pointer (some ⟨pp, 0, none⟩), .int .u64 id, b.val, .int .u16 draw] w fun e w' => e = .returned (.tuple #[.int .u16 (lendB b draw i).port, .int .i64 0]) ∧ PortsAt w' pp pm (mput P id (lendB b draw i)) ∧ Off (fun k => k = pm) w w' :=
  (lend_any hP hid hk hd0 hd1).mono fun e w' h => by
    rcases h with ⟨h0, _⟩ | ⟨_, i', hi', hf', hmin', he, hp, ho⟩ | ⟨_, hn, _⟩
    · exact absurd hm h0
    · have : i' = i := by
        rcases Nat.lt_trichotomy i' i with h | h | h
        · rw [hmin i' h] at hf'; cases hf'
        · exact h
        · rw [hmin' i h] at hf; cases hf
      subst this
      exact ⟨he, hp, ho⟩
    · rw [hn i hi] at hf; cases hf
theorem least_free {P : List (Int × Bnd)} {b : Bnd} {draw : Int} (h : ¬ ∀ i : Nat, i < 28232 → freeB P (lendB b draw i) = false) : ∃ i : Nat, i < 28232 ∧ freeB P (lendB b draw i) = true ∧ ∀ j, j < i → freeB P (lendB b draw j) = false := by
  have hex : ∃ i : Nat, i < 28232 ∧ freeB P (lendB b draw i) = true := by
    apply Classical.byContradiction
    intro hn
    refine h fun i hi => ?_
    cases hf : freeB P (lendB b draw i) with
    | false => rfl
    | true => exact absurd ⟨i, hi, hf⟩ hn
  obtain ⟨i, hi, hf⟩ := hex
  induction i using Nat.strongRecOn with
  | _ i ih =>
    by_cases hm : ∀ j, j < i → freeB P (lendB b draw j) = false
    · exact ⟨i, hi, hf, hm⟩
    · have : ∃ j, j < i ∧ freeB P (lendB b draw j) = true := by
        apply Classical.byContradiction
        intro hn
        refine hm fun j hj => ?_
        cases hf2 : freeB P (lendB b draw j) with
        | false => rfl
        | true => exact absurd ⟨j, hj, hf2⟩ hn
      obtain ⟨j, hj, hf2⟩ := this
      exact ih j hj (by omega) hf2

theorem desk_bnd {w : World} {b : Nat} {d : DeskV} (h : w.heap[b]? = some (.cells d.cells 84 (0, 0))) (k ip port : Int) (s : Bool) :
    ((((w.setCell ⟨b, 2, none⟩ (.int .u8 k)).setCell ⟨b, 3, none⟩ (.int .u32 ip)).setCell ⟨b, 4, none⟩ (.int .u16 port)).setCell ⟨b, 5, none⟩ (.bool s)).drew.heap[b]? = some (.cells { d with b := ⟨k, ip, port, s⟩ : DeskV }.cells 84 (0, 0)) := by
  have h5 := cells_upd (cells_upd (cells_upd (cells_upd h 2 (.int .u8 k)) 3 (.int .u32 ip)) 4 (.int .u16 port)) 5 (.bool s)
  have e : (((d.cells.setIfInBounds 2 (.int .u8 k)).setIfInBounds 3 (.int .u32 ip)).setIfInBounds 4 (.int .u16 port)).setIfInBounds 5 (.bool s) = { d with b := ⟨k, ip, port, s⟩ : DeskV }.cells := by simp [DeskV.cells]
  rw [e] at h5
  rw [drew_heap]; exact h5
theorem desk_bnd_off (w : World) (b : Nat) (k ip port : Int) (s : Bool) :
    Off (fun k => k = b) w ((((w.setCell ⟨b, 2, none⟩ (.int .u8 k)).setCell ⟨b, 3, none⟩ (.int .u32 ip)).setCell ⟨b, 4, none⟩ (.int .u16 port)).setCell ⟨b, 5, none⟩ (.bool s)).drew :=
  (((((Off.refl (fun k => k = b) w).setCell (p := ⟨b, 2, none⟩) (.inl rfl) _).setCell (p := ⟨b, 3, none⟩) (.inl rfl) _).setCell (p := ⟨b, 4, none⟩) (.inl rfl) _).setCell (p := ⟨b, 5, none⟩) (.inl rfl) _).drew

theorem mput_mput {κ α : Type} [DecidableEq κ] (l : List (κ × α)) (k : κ) (x y : α) : mput (mput l k x) k y = mput l k y := by
  induction l with
  | nil => simp [mput]
  | cons p r ih =>
    obtain ⟨a, v⟩ := p
    simp only [mput]
    split
    · rename_i e; simp [mput]
    · rename_i e; simp only [mput]; rw [if_neg e, ih]
theorem desk_paired {w : World} {b : Nat} {d : DeskV} (h : w.heap[b]? = some (.cells d.cells 84 (0, 0))) (i x1 x2 x3 x4 : Int) :
    (((((w.setCell ⟨b, 1, none⟩ (.int .u8 i)).setCell ⟨b, 6, none⟩ (.int .u32 x1)).setCell ⟨b, 7, none⟩ (.int .u16 x2)).setCell ⟨b, 8, none⟩ (.int .u32 x3)).setCell ⟨b, 9, none⟩ (.int .u16 x4)).drew.heap[b]? = some (.cells { d with is := i, fip := x1, fport := x2, tip := x3, tport := x4 : DeskV }.cells 84 (0, 0)) := by
  have h5 := cells_upd (cells_upd (cells_upd (cells_upd (cells_upd h 1 (.int .u8 i)) 6 (.int .u32 x1)) 7 (.int .u16 x2)) 8 (.int .u32 x3)) 9 (.int .u16 x4)
  have e : ((((d.cells.setIfInBounds 1 (.int .u8 i)).setIfInBounds 6 (.int .u32 x1)).setIfInBounds 7 (.int .u16 x2)).setIfInBounds 8 (.int .u32 x3)).setIfInBounds 9 (.int .u16 x4) = { d with is := i, fip := x1, fport := x2, tip := x3, tport := x4 : DeskV }.cells := by simp [DeskV.cells]
  rw [e] at h5
  rw [drew_heap]; exact h5
theorem desk_paired_off (w : World) (b : Nat) (i x1 x2 x3 x4 : Int) :
    Off (fun k => k = b) w (((((w.setCell ⟨b, 1, none⟩ (.int .u8 i)).setCell ⟨b, 6, none⟩ (.int .u32 x1)).setCell ⟨b, 7, none⟩ (.int .u16 x2)).setCell ⟨b, 8, none⟩ (.int .u32 x3)).setCell ⟨b, 9, none⟩ (.int .u16 x4)).drew :=
  ((((((Off.refl (fun k => k = b) w).setCell (p := ⟨b, 1, none⟩) (.inl rfl) _).setCell (p := ⟨b, 6, none⟩) (.inl rfl) _).setCell (p := ⟨b, 7, none⟩) (.inl rfl) _).setCell (p := ⟨b, 8, none⟩) (.inl rfl) _).setCell (p := ⟨b, 9, none⟩) (.inl rfl) _).drew

section
variable {w : World} {t fm sm pp pm : Nat} {ownv : Value} {most last : Int} {own : List Int} {F : List (Int × FileV)} {L : List (Int × (Nat × DeskV))} {P : List (Int × Bnd)}

/-- which place a socket has that connects -/
def ConnPlace (P : List (Int × Bnd)) (id : Int) (d : DeskV) (o draw : Int) (b1 : Bnd) (P1 : List (Int × Bnd)) : Prop :=
  (d.is ≠ 0 ∧ b1 = d.b ∧ P1 = P) ∨
  (d.is = 0 ∧ mayErr P id = 0 ∧ ∃ i : Nat, i < 28232 ∧ freeB P (lendB ⟨d.proto, o, 0, false⟩ draw i) = true ∧ (∀ j, j < i → freeB P (lendB ⟨d.proto, o, 0, false⟩ draw j) = false) ∧ b1 = lendB ⟨d.proto, o, 0, false⟩ draw i ∧ P1 = mput P id b1)

/-- a socket's desk, that has a pair -/
def connDesk (d : DeskV) (b1 : Bnd) (o ip port : Int) : DeskV :=
  { d with b := b1, is := 3, was := if d.is = 3 then d.was else d.is, fip := if b1.ip = 0 then o else b1.ip, fport := b1.port, tip := ip, tport := port }

/-- what 'Connect' leaves, where the questions are answered -/
def ConnPost (w : World) (t fm sm pp pm : Nat) (ownv : Value) (most last : Int) (own : List Int) (F : List (Int × FileV)) (L : List (Int × (Nat × DeskV))) (P : List (Int × Bnd)) (id : Int) (b : Nat) (d : DeskV) (o ip port draw : Int) (e : Ending) (w' : World) : Prop :=
  (∃ c, c ≠ 0 ∧ d.is = 0 ∧ ((mayErr P id ≠ 0 ∧ c = mayErr P id) ∨ (mayErr P id = 0 ∧ (∀ i : Nat, i < 28232 → freeB P (lendB ⟨d.proto, o, 0, false⟩ draw i) = false) ∧ c = 220)) ∧ e = .returned (.tuple #[.agg #[.int .u32 0, .int .u16 0, .int .u32 0, .int .u16 0], .int .i64 c]) ∧ Grew w w') ∨
  (∃ b1 P1, ConnPlace P id d o draw b1 P1 ∧ e = .returned (.tuple #[.agg #[.int .u32 (connDesk d b1 o ip port).fip, .int .u16 b1.port, .int .u32 ip, .int .u16 port], .int .i64 0]) ∧
    TabAt w' t fm sm pp pm ownv most last own F (mput L id (b, connDesk d b1 o ip port)) P1 ∧ Off (fun k => k = pm ∨ k = b) w w')

/-- halfway: the place is there -/
structure ConnMid (w wx : World) (t fm sm pp pm : Nat) (ownv : Value) (most last : Int) (own : List Int) (F : List (Int × FileV)) (L : List (Int × (Nat × DeskV))) (id : Int) (b : Nat) (d : DeskV) (b1 : Bnd) (P1 : List (Int × Bnd)) (o ip port : Int) : Prop where
  tab : TabAt wx t fm sm pp pm ownv most last own F (mput L id (b, { d with b := b1 })) P1
  off : Off (fun k => k = pm ∨ k = b) w wx
  desk : wx.heap[b]? = some (.cells { d with b := b1 : DeskV }.cells 84 (0, 0))
  k1 : wx.heap[w.heap.size + 1]? = some (.cells #[.int .u32 o] 22 (0, 0))
  k2 : wx.heap[w.heap.size + 1 + 1]? = some (.cells #[.int .u32 ip, .int .u16 port] 25 (0, 0))
  k3 : wx.heap[w.heap.size + 1 + 1 + 1]? = some (.cells #[.int .u32 0, .int .u16 0, .int .u32 0, .int .u16 0] 36 (0, 0))

set_option maxRecDepth 100000 in
set_option maxHeartbeats 8000000 in
theorem connect_go (h : TabAt w t fm sm pp pm ownv most last own F L P) (hl : own.length ≤ 1000000) {fd : Int} (hfd : (Lit.int .i64 fd).wf = true) {f : FileV} (hf : mget F fd = some f) (hk : f.kind = 1) (hid : (Lit.int .u64 f.id).wf = true) {b : Nat} {d : DeskV} (hb : mget L f.id = some (b, d)) (o ip port : Int) {draw : Int} (hd0 : 0 ≤ draw) (hd1 : draw ≤ 65535)
    (hc : connAsk own d o ip port = 0) (hp : d.proto = 1 ∨ d.proto = 2) :
    Calls Try.prog 17 #[.pointer (some ⟨t, 0, none⟩), .int .i64 fd, .int .u32 o, .agg #[.int .u32 ip, .int .u16 port], .int .u16 draw] w (ConnPost w t fm sm pp pm ownv most last own F L P f.id b d o ip port draw) := by
  have hAsk := conn_asks h hl hfd hf hk hid hb o ip port
  obtain ⟨hg, k0, k1, k2, k3, _⟩ := connW_facts w t o ip port
  rw [hc] at hAsk
  have HAsk := Lib.hid hAsk
  have HG := Lib.hid hg
  have HK := Lib.hid (And.intro k0 (And.intro k1 (And.intro k2 k3)))
  have H := Lib.hid h
  have HB := Lib.hid hb
  obtain ⟨fk, fp, fi, fc⟩ := f
  simp only at hid hb hk HB HAsk ⊢
  clear h hf hb hAsk hg hc k0 k1 k2 k3
  go_enter Try.func17, Try.ntmps17
  go_wp2_with fail
  refine HAsk.out.mono ?_
  rintro e w1 ⟨he, hg1⟩
  rw [if_pos rfl] at he
  subst he
  have HG1 := Lib.hid (HG.out.trans hg1)
  have HT1 := Lib.hid (H.out.grew HG1.out)
  have kk : ∀ {j : Nat} {c : Array Value} {ty : TypeId}, (connW w t o ip port).heap[j]? = some (.cells c ty (0, 0)) → w1.heap[j]? = some (.cells c ty (0, 0)) := fun hj => (hg1.block _ (Array.getElem?_eq_some_iff.1 hj).1 fun h => h).trans hj
  have HK1 := Lib.hid (And.intro (kk HK.out.1) (And.intro (kk HK.out.2.1) (And.intro (kk HK.out.2.2.1) (kk HK.out.2.2.2))))
  have hd := HT1.out.desks _ (mget_mem HB.out)
  have HD := Lib.hid hd
  simp only [DeskV.cells] at hd
  have d1 : w1.cell? ⟨b, 1, none⟩ = some (.int .u8 d.is) := cell_of hd 1
  clear hg1 kk hd HK HG HAsk
  go_upto_if 36 with fail
  go_cut [] (fun wx => ∃ b1 P1, ConnPlace P fi d o draw b1 P1 ∧ ConnMid w wx t fm sm pp pm ownv most last own F L fi b d b1 P1 o ip port)
  case first =>
    by_cases hz : d.is = 0
    · have hz1 : (d.is == 0) = true := beq_iff_eq.2 hz
      have HZ := Lib.hid hz
      have r0 : w1.cell? ⟨w.heap.size, 0, none⟩ = some (.pointer (some ⟨t, 0, none⟩)) := cell_of HK1.out.1 0
      have r1 : w1.cell? ⟨w.heap.size + 1, 0, none⟩ = some (.int .u32 o) := cell_of HK1.out.2.1 0
      have d0 : w1.cell? ⟨b, 0, none⟩ = some (.int .u8 d.proto) := by
        have := HD.out
        simp only [DeskV.cells] at this
        exact cell_of this 0
      have c4 := HT1.out.c4
      have hbpm : b ≠ pm := map_not_cells HT1.out.ports.map HD.out
      have hPd := (HT1.out.grew ((Off.refl (fun _ => False) w1).drew)).ports
      have hbv : Bnd.val ⟨d.proto, o, 0, false⟩ = .agg #[.int .u8 d.proto, .int .u32 o, .int .u16 0, .bool false] := rfl
      generalize d.is = di at d1 hz1
      clear hz
      have hD1 : w1.drew.heap[b]? = some (.cells d.cells 84 (0, 0)) := by rw [drew_heap]; exact HD.out
      have hK1 : w1.drew.heap[w.heap.size + 1]? = some (.cells #[.int .u32 o] 22 (0, 0)) := by rw [drew_heap]; exact HK1.out.2.1
      have hK2 : w1.drew.heap[w.heap.size + 1 + 1]? = some (.cells #[.int .u32 ip, .int .u16 port] 25 (0, 0)) := by rw [drew_heap]; exact HK1.out.2.2.1
      have hK3 : w1.drew.heap[w.heap.size + 1 + 1 + 1]? = some (.cells #[.int .u32 0, .int .u16 0, .int .u32 0, .int .u16 0] 36 (0, 0)) := by rw [drew_heap]; exact HK1.out.2.2.2
      have HDK := Lib.hid (And.intro hD1 (And.intro hK1 (And.intro hK2 hK3)))
      have hsb : b < w.heap.size := (Array.getElem?_eq_some_iff.1 (H.out.desks _ (mget_mem HB.out))).1
      have hsp : pm < w.heap.size := H.out.blks_lt (.inr (.inr (.inr (.inr (.inl rfl)))))
      have HSZ := Lib.hid (And.intro hsb (And.intro hsp hbpm))
      clear hD1 hK1 hK2 hK3 hsb hsp hbpm
      have hE : (∃ c, c ≠ 0 ∧ ((mayErr P fi ≠ 0 ∧ c = mayErr P fi) ∨ (mayErr P fi = 0 ∧ (∀ i : Nat, i < 28232 → freeB P (lendB ⟨d.proto, o, 0, false⟩ draw i) = false) ∧ c = 220)) ∧ Calls Try.prog 45 #[.pointer (some ⟨pp, 0, none⟩), .int .u64 fi, Bnd.val ⟨d.proto, o, 0, false⟩, .int .u16 draw] w1.drew fun e w' => e = .returned (.tuple #[.int .u16 0, .int .i64 c]) ∧ Grew w1.drew w') ∨
          (mayErr P fi = 0 ∧ ¬ ∀ i : Nat, i < 28232 → freeB P (lendB ⟨d.proto, o, 0, false⟩ draw i) = false) := by
        by_cases hm : mayErr P fi = 0
        · by_cases hn : ∀ i : Nat, i < 28232 → freeB P (lendB ⟨d.proto, o, 0, false⟩ draw i) = false
          · exact .inl ⟨220, by decide, .inr ⟨hm, hn, rfl⟩, lend_none hPd hid (b := ⟨d.proto, o, 0, false⟩) hp hd0 hd1 hm hn⟩
          · exact .inr ⟨hm, hn⟩
        · exact .inl ⟨mayErr P fi, hm, .inl ⟨hm, rfl⟩, lend_err hPd hid (b := ⟨d.proto, o, 0, false⟩) hp hd0 hd1 hm⟩
      rcases hE with ⟨c, hc0, hcw, hcl⟩ | ⟨hm, hn⟩
      · rw [hbv] at hcl
        have HLend := Lib.hid hcl
        have HCW := Lib.hid (And.intro hc0 hcw)
        have hb1 : (c == 0) = false := beq_eq_false_iff_ne.2 hc0
        have hb2 : (c != 0) = true := by rw [bne, hb1]; rfl
        clear hcl hc0 hcw hPd hbv
        go_wp2_with fail
        go_region_law (go_simp; go_at_call 45; refine HLend.out.mono ?_; rintro e w4 ⟨rfl, hg4⟩; have hb := (hg4.block _ (Array.getElem?_eq_some_iff.1 HDK.out.2.2.2).1 fun h => h).trans HDK.out.2.2.2; have HG4 := Lib.hid hg4; have HB4 := Lib.hid hb; clear hg4; obtain ⟨r0, r1, r2, r3⟩ := pair_cells hb; have s0 := frozen_of hb 0; have s1 := frozen_of hb 1; have s2 := frozen_of hb 2; have s3 := frozen_of hb 3; clear hb)
        all_goals (go_wp2_with fail)
        all_goals
          have hlt : w.heap.size ≤ w.heap.size + 1 + 1 + 1 := by omega
          have ho : Off (fun k => w.heap.size ≤ k) w ((((w4.setCell ⟨w.heap.size + 1 + 1 + 1, 0, none⟩ (.int .u32 0)).setCell ⟨w.heap.size + 1 + 1 + 1, 1, none⟩ (.int .u16 0)).setCell ⟨w.heap.size + 1 + 1 + 1, 2, none⟩ (.int .u32 0)).setCell ⟨w.heap.size + 1 + 1 + 1, 3, none⟩ (.int .u16 0)) :=
            pair_off ((HG1.out.drew.trans HG4.out).mono fun _ _ h => h.elim) hlt _ _ _ _
          have hq := pair_set HB4.out (.int .u32 0) (.int .u16 0) (.int .u32 0) (.int .u16 0)
          generalize ((((w4.setCell ⟨w.heap.size + 1 + 1 + 1, 0, none⟩ (.int .u32 0)).setCell ⟨w.heap.size + 1 + 1 + 1, 1, none⟩ (.int .u16 0)).setCell ⟨w.heap.size + 1 + 1 + 1, 2, none⟩ (.int .u32 0)).setCell ⟨w.heap.size + 1 + 1 + 1, 3, none⟩ (.int .u16 0)) = w2 at *
          obtain ⟨z0, z1, z2, z3⟩ := pair_cells hq
          exact bodyPost_ret (v := .tuple #[.agg #[.int .u32 0, .int .u16 0, .int .u32 0, .int .u16 0], .int .i64 c]) (by simp [results, Try.results17, go_sem, z0, z1, z2, z3]) rfl (.inl ⟨c, HCW.out.1, HZ.out, HCW.out.2, rfl, ⟨ho.os, ho.tape, ho.output, ho.size, fun k hk _ => ho.block k hk (by omega)⟩⟩)
      · obtain ⟨i, hi, hf, hmin⟩ := least_free hn
        have c := lend_one hPd hid (b := ⟨d.proto, o, 0, false⟩) hp hd0 hd1 hm hi hf hmin
        rw [hbv] at c
        have HPlc : Hid (ConnPlace P fi d o draw (lendB ⟨d.proto, o, 0, false⟩ draw i) (mput P fi (lendB ⟨d.proto, o, 0, false⟩ draw i))) := Lib.hid (.inr ⟨HZ.out, hm, i, hi, hf, hmin, rfl, rfl⟩)
        have hlb : lendB ⟨d.proto, o, 0, false⟩ draw i = ⟨d.proto, o, (lendB ⟨d.proto, o, 0, false⟩ draw i).port, false⟩ := rfl
        obtain ⟨pr, hpr⟩ : ∃ p, (lendB ⟨d.proto, o, 0, false⟩ draw i).port = p := ⟨_, rfl⟩
        rw [hpr] at c hlb
        rw [hlb] at c HPlc
        have HLend := Lib.hid c
        clear c hi hf hmin hm hn hbv hPd hlb hpr
        go_wp2_with fail
        go_region_law (go_simp; go_at_call 45; refine HLend.out.mono ?_; rintro e w4 ⟨rfl, hp4, ho4⟩; have HP4 := Lib.hid hp4; have hb := (ho4.block b (Array.getElem?_eq_some_iff.1 HDK.out.1).1 HSZ.out.2.2).trans HDK.out.1; have hk := (ho4.block _ (Array.getElem?_eq_some_iff.1 HDK.out.2.1).1 (by have := HSZ.out; omega)).trans HDK.out.2.1; have HO4 := Lib.hid ho4; have HDk4 := Lib.hid hb; simp only [DeskV.cells] at hb; have r1 := cell_of hk 0; clear hk ho4 hp4; have d0 : w4.cell? ⟨b, 0, none⟩ = some (.int .u8 d.proto) := cell_of hb 0; have e2 : w4.cell? ⟨b, 2, none⟩ = some (.int .u8 d.b.kind) := cell_of hb 2; have e3 : w4.cell? ⟨b, 3, none⟩ = some (.int .u32 d.b.ip) := cell_of hb 3; have e4 : w4.cell? ⟨b, 4, none⟩ = some (.int .u16 d.b.port) := cell_of hb 4; have e5 : w4.cell? ⟨b, 5, none⟩ = some (.bool d.b.share) := cell_of hb 5; have f2 := frozen_of hb 2; have f3 := frozen_of hb 3; have f4 := frozen_of hb 4; have f5 := frozen_of hb 5; clear hb)
        all_goals (go_wp2_with fail)
        all_goals (have n1 : ¬ w.heap.size + 1 = b := by (have := HSZ.out; omega))
        all_goals (have n2 : ¬ b = w.heap.size + 1 := by (have := HSZ.out; omega))
        all_goals go_region
        all_goals (clear d0 e2 e3 e4 e5 f2 f3 f4 f5 n1 n2 r1)
        all_goals
          have hdp := desk_bnd HDk4.out d.proto o pr false
          have hop := desk_bnd_off w4 b d.proto o pr false
          generalize ((((w4.setCell ⟨b, 2, none⟩ (.int .u8 d.proto)).setCell ⟨b, 3, none⟩ (.int .u32 o)).setCell ⟨b, 4, none⟩ (.int .u16 pr)).setCell ⟨b, 5, none⟩ (.bool false)).drew = w5 at *
          have HDp := Lib.hid hdp
          have HOp := Lib.hid hop
          clear hdp hop
        all_goals go_wp2_with fail
        all_goals go_meet
        all_goals
          have hbs := HSZ.out
          have hg := HG1.out.drew
          have ho1 : Off (fun k => k = pm ∨ k = b) w w5 := ((hg.mono fun _ _ h => h.elim).next HO4.out fun i hi => .inl (.inl hi)).next HOp.out fun i hi => .inl (.inr hi)
          have ho4 : Off (fun k => k = pm ∨ k = b) w1.drew w5 := (HO4.out.mono fun _ _ h => .inl h).trans (HOp.out.mono fun _ _ h => .inr h)
          have kk : ∀ {j : Nat} {c : Array Value} {ty : TypeId}, w1.drew.heap[j]? = some (.cells c ty (0, 0)) → w.heap.size ≤ j → w5.heap[j]? = some (.cells c ty (0, 0)) := fun {j c ty} hj h1 => (ho4.block j (Array.getElem?_eq_some_iff.1 hj).1 (by omega)).trans hj
          exact ⟨⟨d.proto, o, pr, false⟩, mput P fi ⟨d.proto, o, pr, false⟩, HPlc.out, ⟨((HT1.out.grew ((Off.refl (fun _ => False) w1).drew)).turnPorts HO4.out HP4.out).setDesk HB.out HOp.out HDp.out, ho1, HDp.out, kk HDK.out.2.1 (by omega), kk HDK.out.2.2.1 (by omega), kk HDK.out.2.2.2 (by omega)⟩⟩
    · have hz1 : (d.is == 0) = false := beq_eq_false_iff_ne.2 hz
      have HZ := Lib.hid hz
      clear hz
      go_wp2_with fail
      go_meet
      have e1 : ({ d with b := d.b } : DeskV) = d := rfl
      exact ⟨d.b, P, .inl ⟨HZ.out, rfl, rfl⟩, ⟨HT1.out.setDesk HB.out (Off.refl _ _) HD.out, HG1.out.mono fun _ _ h => h.elim, HD.out, HK1.out.2.1, HK1.out.2.2.1, HK1.out.2.2.2⟩⟩
  case rest =>
    obtain ⟨b1, P1, hpl, hm⟩ := hcut
    have HPl := Lib.hid hpl
    have HM := Lib.hid hm
    have hbl : b < w.heap.size := by
      have := H.out.desks _ (mget_mem HB.out)
      exact (Array.getElem?_eq_some_iff.1 this).1
    have hwc : w.heap.size + 1 + 1 + 1 < wc.heap.size := (Array.getElem?_eq_some_iff.1 hm.k3).1
    have hdk := hm.desk
    simp only [DeskV.cells] at hdk
    have y3 : wc.cell? ⟨b, 3, none⟩ = some (.int .u32 b1.ip) := cell_of hdk 3
    have y4 : wc.cell? ⟨b, 4, none⟩ = some (.int .u16 b1.port) := cell_of hdk 4
    have hbc : b < wc.heap.size := by omega
    clear hpl hm hdk HT1 HD d1 HK1 HG1
    go_wp2_with fail
    go_region
    clear y3 y4
    obtain ⟨N, hN⟩ : ∃ N, wc.heap.size = N := ⟨_, rfl⟩
    have hn2 : Hid ((wc.alloc (.cells #[.int .u32 b1.ip, .int .u16 b1.port] 25)).drew.heap[N]? = some (.cells #[.int .u32 b1.ip, .int .u16 b1.port] 25 (0, 0))) := Lib.hid (by rw [← hN]; exact (MapKept.heap_alloc wc _).1)
    have ho2 := Lib.hid ((grew_alloc wc (.cells #[.int .u32 b1.ip, .int .u16 b1.port] 25)).drew)
    rw [hN] at hwc hbc ⊢
    have HN := Lib.hid hN
    clear hN
    generalize (wc.alloc (.cells #[.int .u32 b1.ip, .int .u16 b1.port] 25)).drew = w2 at *
    obtain ⟨fi', hfi'⟩ : ∃ x, (if b1.ip = 0 then o else b1.ip) = x := ⟨_, rfl⟩
    have HFi := Lib.hid hfi'
    clear hfi'
    have z0 := cell_of hn2.out 0
    simp only [List.getElem?_toArray, List.getElem?_cons_zero] at z0
    go_upto_if 85 with fail
    go_cut [] (fun wx => wx.heap[N]? = some (.cells #[.int .u32 fi', .int .u16 b1.port] 25 (0, 0)) ∧ Off (fun k => k = N) w2 wx)
    case first =>
      have s0 := frozen_of hn2.out 0
      have x0 : w2.cell? ⟨w.heap.size + 1, 0, none⟩ = some (.int .u32 o) := cell_of ((ho2.out.block _ (by rw [HN.out]; omega) fun h => h).trans HM.out.k1) 0
      by_cases hz : b1.ip = 0
      · have hz1 : (b1.ip == 0) = true := beq_iff_eq.2 hz
        have HZ := Lib.hid hz
        have hup := Lib.hid (cells_upd hn2.out 0 (.int .u32 o))
        clear hz
        go_wp2_with fail
        go_meet
        refine ⟨?_, (Off.refl (fun k => k = N) w2).setCell (p := ⟨N, 0, none⟩) (.inl rfl) _⟩
        have h1 := hup.out
        have h2 := HFi.out
        rw [if_pos HZ.out] at h2
        rw [← h2]; exact h1
      · have hz1 : (b1.ip == 0) = false := beq_eq_false_iff_ne.2 hz
        have HZ := Lib.hid hz
        clear hz
        go_wp2_with fail
        go_meet
        have h2 := HFi.out
        rw [if_neg HZ.out] at h2
        exact ⟨by rw [← h2]; exact hn2.out, Off.refl _ _⟩
    case rest =>
      obtain ⟨hn3, ho3⟩ := hcut
      obtain ⟨w3, hw3⟩ : ∃ x, x = wc := ⟨_, rfl⟩
      rw [← hw3] at hn3 ho3 ⊢
      clear hw3
      have hdk2 := (ho2.out.block b (by rw [HN.out]; exact hbc) fun h => h).trans HM.out.desk
      have hdk3 := (ho3.block b (Array.getElem?_eq_some_iff.1 hdk2).1 (by omega)).trans hdk2
      have HN3 := Lib.hid hn3
      have HO3 := Lib.hid ho3
      have HDk3 := Lib.hid hdk3
      simp only [DeskV.cells] at hdk3
      have t1 : w3.cell? ⟨b, 1, none⟩ = some (.int .u8 d.is) := cell_of hdk3 1
      have t11 : w3.cell? ⟨b, 11, none⟩ = some (.int .u8 d.was) := cell_of hdk3 11
      have g11 := frozen_of hdk3 11
      obtain ⟨wa', hwa'⟩ : ∃ x, (if d.is = 3 then d.was else d.is) = x := ⟨_, rfl⟩
      have HWa := Lib.hid hwa'
      clear hwa' hn3 ho3 hdk2 hdk3
      go_upto_if 93 with fail
      go_cut [] (fun wx => wx.heap[b]? = some (.cells { d with b := b1, was := wa' : DeskV }.cells 84 (0, 0)) ∧ Off (fun k => k = b) w3 wx)
      case first =>
        by_cases hz : d.is = 3
        · have hz1 : (d.is == 3) = true := beq_iff_eq.2 hz
          have hz2 : (d.is != 3) = false := by rw [bne, hz1]; rfl
          have HZ := Lib.hid hz
          have h2 := HWa.out
          rw [if_pos hz] at h2
          have H2 := Lib.hid h2
          clear h2
          generalize d.is = di at t1 hz1 hz2
          clear hz
          go_wp2_with fail
          go_meet
          exact ⟨by rw [← H2.out]; exact HDk3.out, Off.refl _ _⟩
        · have hz1 : (d.is == 3) = false := beq_eq_false_iff_ne.2 hz
          have hz2 : (d.is != 3) = true := by rw [bne, hz1]; rfl
          have HZ := Lib.hid hz
          have h2 := HWa.out
          rw [if_neg hz] at h2
          have H2 := Lib.hid h2
          have hup := Lib.hid (cells_upd HDk3.out 11 (.int .u8 d.is))
          clear h2 hz
          go_wp2_with fail
          go_meet
          refine ⟨?_, (Off.refl (fun k => k = b) w3).setCell (p := ⟨b, 11, none⟩) (.inl rfl) _⟩
          have e : ({ d with b := b1 : DeskV }.cells).setIfInBounds 11 (.int .u8 d.is) = { d with b := b1, was := d.is : DeskV }.cells := by simp [DeskV.cells]
          have h1 := hup.out
          rw [e] at h1
          rw [← H2.out]; exact h1
      case rest =>
        obtain ⟨hn4, ho4⟩ := hcut
        obtain ⟨w4, hw4⟩ : ∃ x, x = wc := ⟨_, rfl⟩
        rw [← hw4] at hn4 ho4 ⊢
        clear hw4
        have HDk4 := Lib.hid hn4
        have hN4 := (ho4.block N (Array.getElem?_eq_some_iff.1 HN3.out).1 (by omega)).trans HN3.out
        have kk : ∀ {j : Nat} {c : Array Value} {ty : TypeId}, HM.out.k1 = HM.out.k1 → w2.heap[j]? = some (.cells c ty (0, 0)) → j ≠ N → j ≠ b → w4.heap[j]? = some (.cells c ty (0, 0)) := fun {j c ty} _ hj h1 h2 => by
          have e3 := (HO3.out.block j (Array.getElem?_eq_some_iff.1 hj).1 h1).trans hj
          exact (ho4.block j (Array.getElem?_eq_some_iff.1 e3).1 h2).trans e3
        have hk2 := kk rfl ((ho2.out.block _ (by rw [HN.out]; omega) fun h => h).trans HM.out.k2) (by omega) (by omega)
        have hk3 := kk rfl ((ho2.out.block _ (by rw [HN.out]; omega) fun h => h).trans HM.out.k3) (by omega) (by omega)
        have HK3 := Lib.hid hk3
        have HO4 : Hid (Off (fun k => k = N ∨ k = b) w2 w4) := Lib.hid ((HO3.out.mono fun _ _ h => .inl h).trans (ho4.mono fun _ _ h => .inr h))
        have HO4b := Lib.hid ho4
        have n1 : ¬ N = b := by omega
        have n2 : ¬ b = N := by omega
        have n3 : ¬ w.heap.size + 1 + 1 = b := by omega
        have n4 : ¬ b = w.heap.size + 1 + 1 := by omega
        have hn5 := hn4
        simp only [DeskV.cells] at hn5
        have p0 : w4.cell? ⟨N, 0, none⟩ = some (.int .u32 fi') := cell_of hN4 0
        have p1 : w4.cell? ⟨N, 1, none⟩ = some (.int .u16 b1.port) := cell_of hN4 1
        have p2 : w4.cell? ⟨w.heap.size + 1 + 1, 0, none⟩ = some (.int .u32 ip) := cell_of hk2 0
        have p3 : w4.cell? ⟨w.heap.size + 1 + 1, 1, none⟩ = some (.int .u16 port) := cell_of hk2 1
        have e1 : w4.cell? ⟨b, 1, none⟩ = some (.int .u8 d.is) := cell_of hn5 1
        have e6 : w4.cell? ⟨b, 6, none⟩ = some (.int .u32 d.fip) := cell_of hn5 6
        have e7 : w4.cell? ⟨b, 7, none⟩ = some (.int .u16 d.fport) := cell_of hn5 7
        have e8 : w4.cell? ⟨b, 8, none⟩ = some (.int .u32 d.tip) := cell_of hn5 8
        have e9 : w4.cell? ⟨b, 9, none⟩ = some (.int .u16 d.tport) := cell_of hn5 9
        have g1 := frozen_of hn5 1
        have g6 := frozen_of hn5 6
        have g7 := frozen_of hn5 7
        have g8 := frozen_of hn5 8
        have g9 := frozen_of hn5 9
        clear hn4 hn5 hN4 kk hk2 hk3 ho4 t1 t11 g11 z0 hwc hbc hbl
        go_wp2_with fail
        go_region
        clear p0 p1 p2 p3 e1 e6 e7 e8 e9 g1 g6 g7 g8 g9 n1 n2 n3 n4
        have hdp := desk_paired HDk4.out 3 fi' b1.port ip port
        have hop := desk_paired_off w4 b 3 fi' b1.port ip port
        generalize (((((w4.setCell ⟨b, 1, none⟩ (.int .u8 3)).setCell ⟨b, 6, none⟩ (.int .u32 fi')).setCell ⟨b, 7, none⟩ (.int .u16 b1.port)).setCell ⟨b, 8, none⟩ (.int .u32 ip)).setCell ⟨b, 9, none⟩ (.int .u16 port)).drew = w5 at *
        have HDp := Lib.hid hdp
        have HOp := Lib.hid hop
        simp only [DeskV.cells] at hdp
        have e6 : w5.cell? ⟨b, 6, none⟩ = some (.int .u32 fi') := cell_of hdp 6
        have e7 : w5.cell? ⟨b, 7, none⟩ = some (.int .u16 b1.port) := cell_of hdp 7
        have e8 : w5.cell? ⟨b, 8, none⟩ = some (.int .u32 ip) := cell_of hdp 8
        have e9 : w5.cell? ⟨b, 9, none⟩ = some (.int .u16 port) := cell_of hdp 9
        have hbl : b < w.heap.size := by
          have := H.out.desks _ (mget_mem HB.out)
          exact (Array.getElem?_eq_some_iff.1 this).1
        have hk5 := (hop.block _ (Array.getElem?_eq_some_iff.1 HK3.out).1 (by omega)).trans HK3.out
        have HK5 := Lib.hid hk5
        obtain ⟨r0, r1, r2, r3⟩ := pair_cells hk5
        have s0 := frozen_of hk5 0
        have s1 := frozen_of hk5 1
        have s2 := frozen_of hk5 2
        have s3 := frozen_of hk5 3
        clear hdp hop hk5
        go_wp2_with fail
        have ho6 : Off (fun k => w.heap.size ≤ k) w5 ((((w5.setCell ⟨w.heap.size + 1 + 1 + 1, 0, none⟩ (.int .u32 fi')).setCell ⟨w.heap.size + 1 + 1 + 1, 1, none⟩ (.int .u16 b1.port)).setCell ⟨w.heap.size + 1 + 1 + 1, 2, none⟩ (.int .u32 ip)).setCell ⟨w.heap.size + 1 + 1 + 1, 3, none⟩ (.int .u16 port)) :=
          pair_off (Off.refl (fun k => w.heap.size ≤ k) w5) (by omega) _ _ _ _
        have hq := pair_set HK5.out (.int .u32 fi') (.int .u16 b1.port) (.int .u32 ip) (.int .u16 port)
        generalize ((((w5.setCell ⟨w.heap.size + 1 + 1 + 1, 0, none⟩ (.int .u32 fi')).setCell ⟨w.heap.size + 1 + 1 + 1, 1, none⟩ (.int .u16 b1.port)).setCell ⟨w.heap.size + 1 + 1 + 1, 2, none⟩ (.int .u32 ip)).setCell ⟨w.heap.size + 1 + 1 + 1, 3, none⟩ (.int .u16 port)) = w6 at *
        obtain ⟨z0, z1, z2, z3⟩ := pair_cells hq
        refine bodyPost_ret (v := .tuple #[.agg #[.int .u32 fi', .int .u16 b1.port, .int .u32 ip, .int .u16 port], .int .i64 0]) (by simp [results, Try.results17, go_sem, z0, z1, z2, z3]) rfl (.inr ⟨b1, P1, HPl.out, ?_, ?_, ?_⟩)
        · simp only [connDesk]; rw [HFi.out]
        · have hsz := HM.out.off.size
          have tab3 := (HM.out.tab.grew ho2.out).off HO3.out fun k hk e => by
            have := HM.out.tab.blks_lt hk
            have hNN := HN.out
            omega
          have tab4 := tab3.setDesk (id := fi) (b := b) (by rw [mget_mput, if_pos rfl]) HO4b.out HDk4.out
          have tab5 := tab4.setDesk (id := fi) (b := b) (by rw [mget_mput, if_pos rfl]) HOp.out HDp.out
          rw [mput_mput, mput_mput] at tab5
          have tab6 := tab5.off ho6 fun k hk e => by
            have h1 : tabBlks t fm sm pp pm ownv L k := by
              rcases hk with h | h | h | h | h | h | ⟨x, hx, rfl⟩
              · exact .inl h
              · exact .inr (.inl h)
              · exact .inr (.inr (.inl h))
              · exact .inr (.inr (.inr (.inl h)))
              · exact .inr (.inr (.inr (.inr (.inl h))))
              · exact .inr (.inr (.inr (.inr (.inr (.inl h)))))
              · rcases mem_mput hx with rfl | hx
                · exact .inr (.inr (.inr (.inr (.inr (.inr ⟨_, mget_mem HB.out, rfl⟩)))))
                · exact .inr (.inr (.inr (.inr (.inr (.inr ⟨x, hx, rfl⟩)))))
            have := H.out.blks_lt h1
            omega
          have e : ({ { d with b := b1, was := wa' : DeskV } with is := 3, fip := fi', fport := b1.port, tip := ip, tport := port } : DeskV) = connDesk d b1 o ip port := by
            unfold connDesk; rw [HFi.out, HWa.out]
          rw [e] at tab6
          exact tab6
        · have hNN := HN.out
          have hsz := HM.out.off.size
          exact (((HM.out.off.next ho2.out fun _ h => h.elim).next HO4.out fun i hi => by rcases hi with h | h; exact .inr (by omega); exact .inl (.inr h)).next HOp.out fun i hi => .inl (.inr hi)).next ho6 fun i hi => .inr hi
end
end Go.Proofs.Ytnpfbdekomhonaa
