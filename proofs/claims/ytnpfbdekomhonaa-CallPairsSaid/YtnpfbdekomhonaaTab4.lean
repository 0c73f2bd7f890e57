/- 'Contains' of own addresses, 'unless', 'asks'. -/
import Derived.Test.YtnpfbdekomhonaaTab3
namespace Go.Proofs.Ytnpfbdekomhonaa
open Go.RowKit Stv

def cond (b : Bool) (c : Int) : Int := if b = true then 0 else c
theorem unless_any (b : Bool) (c : Int) (w : World) : Calls Try.prog 31 #[.bool b, .int .i64 c] w fun e w' => e = .returned (.int .i64 (cond b c)) ∧ w' = w := by
  cases b
  all_goals
    go_enter Try.func31, Try.ntmps31
    go_wp2
    go_ret
    exact ⟨rfl, rfl⟩

/-! ### is an address among some? -/
def IdxPost (own : List Int) (ip : Int) (w : World) (e : Ending) (w' : World) : Prop := ∃ k : Int, e = .returned (.int .i64 k) ∧ ((own.any (· == ip)) = true → 0 ≤ k) ∧ ((own.any (· == ip)) = false → k = -1) ∧ w' = w

set_option maxHeartbeats 1000000 in
theorem idx_any {w : World} {v : Value} {own : List Int} (h : OwnRow w 22 1 v own.length (own.map (Value.int .u32))) (hl : own.length ≤ 1000000) (ip : Int) :
    Calls Try.prog 62 #[v, .int .u32 ip] w (IdxPost own ip w) := by
  obtain ⟨a, cap, rfl, h1, h2, h3, h4⟩ := h.form
  have HN := Lib.hid h3
  have HC := Lib.hid h4
  clear h h3 h4
  go_enter Try.func62, Try.ntmps62
  go_wp2
  go_loop [8] (fun i => ∃ k : Nat, k ≤ own.length ∧ i = .int .i64 k ∧ Hid (∀ j (hj : j < own.length), j < k → own[j] ≠ ip)) (fun i => own.length - (intOf i).toNat)
  case atStart => exact ⟨0, Nat.zero_le _, rfl, fun j _ hj => by omega⟩
  case round =>
    obtain ⟨k, hk, rfl, hne⟩ := hrel
    by_cases hlt : k < own.length
    · cases a with
      | none => have := (HN.out rfl).1; omega
      | some b =>
        obtain ⟨g, rfl, _, _, hcells⟩ := HC.out b rfl
        have e0 := (hcells k (.int .u32 own[k]) (by simp [List.getElem?_eq_getElem hlt])).1
        obtain ⟨x, hx⟩ : ∃ x, own[k] = x := ⟨_, rfl⟩
        rw [hx] at e0
        have HX := Lib.hid hx
        clear hcells hx
        by_cases he : x = ip
        · have hb : (ip == x) = true := beq_iff_eq.2 he.symm
          have HE := Lib.hid he
          clear he
          go_wp2
          go_ret
          refine ⟨k, rfl, fun _ => by omega, fun hn => ?_, rfl⟩
          rw [List.any_eq_false] at hn
          exact absurd (beq_iff_eq.2 HE.out) (by have := hn x (by rw [← HX.out]; exact List.getElem_mem _); simpa using this)
        · have hb : (ip == x) = false := beq_eq_false_iff_ne.2 fun e => he e.symm
          have HE := Lib.hid he
          clear he
          go_wp2
          go_round
          case rel =>
            refine ⟨k + 1, by omega, by go_num, fun j hj hjk => ?_⟩
            by_cases hjj : j < k
            · exact hne.out j hj hjj
            · obtain rfl : j = k := by omega
              rw [HX.out]; exact HE.out
          case measure => simp [intOf]; omega
    · obtain rfl : k = own.length := by omega
      go_wp2
      go_ret
      refine ⟨-1, rfl, fun hy => ?_, fun _ => rfl, rfl⟩
      rw [List.any_eq_true] at hy
      obtain ⟨x, hx, he⟩ := hy
      obtain ⟨j, hj, rfl⟩ := List.mem_iff_getElem.1 hx
      exact absurd (beq_iff_eq.1 he) (hne.out j hj hj)

theorem contains_any {w : World} {v : Value} {own : List Int} (h : OwnRow w 22 1 v own.length (own.map (Value.int .u32))) (hl : own.length ≤ 1000000) (ip : Int) :
    Calls Try.prog 25 #[v, .int .u32 ip] w fun e w' => e = .returned (.bool (own.any (· == ip))) ∧ w' = w := by
  have HI := Lib.hid (idx_any h hl ip)
  obtain ⟨a, cap, rfl, _⟩ := h.form
  clear h
  go_enter Try.func25, Try.ntmps25
  go_wp2_with fail
  refine HI.out.mono ?_
  rintro e w' ⟨k, rfl, h1, h2, rfl⟩
  cases hb : own.any (· == ip) with
  | true =>
    have hk := h1 hb
    have HB := Lib.hid hb
    clear h1 h2 hb
    go_wp2_with fail
    go_ret
    exact ⟨by rw [HB.out]; rfl, rfl⟩
  | false =>
    have hk := h2 hb
    have HB := Lib.hid hb
    subst hk
    clear h1 h2 hb
    go_wp2_with fail
    go_ret
    exact ⟨by rw [HB.out]; rfl, rfl⟩

/-! ### asks -/
structure Ask where
  f : Nat
  caps : Array Value
  code : Int
def Ask.fn (a : Ask) : Value := .func (.func a.f) #[] a.caps
def askErr : List Ask → Int
  | [] => 0
  | a :: r => if a.code = 0 then askErr r else a.code

def AskPost (w : World) (id : Int) (b : Nat) (c : Int) (e : Ending) (w' : World) : Prop :=
  (if c = 0 then e = .returned (.tuple #[.int .u64 id, .pointer (some ⟨b, 0, none⟩), .int .i64 0]) else e = .returned (.tuple #[.int .u64 0, .pointer none, .int .i64 c])) ∧ Grew w w'

section
variable {w : World} {t fm sm pp pm : Nat} {ownv : Value} {most last : Int} {own : List Int} {F : List (Int × FileV)} {L : List (Int × (Nat × DeskV))} {P : List (Int × Bnd)}

set_option maxRecDepth 100000 in
set_option maxHeartbeats 2000000 in
theorem asks_ok (h : TabAt w t fm sm pp pm ownv most last own F L P) {fd : Int} (hfd : (Lit.int .i64 fd).wf = true) {f : FileV} (hf : mget F fd = some f) (hk : f.kind = 1) (hid : (Lit.int .u64 f.id).wf = true) {b : Nat} {d : DeskV} (hb : mget L f.id = some (b, d))
    {l : List Ask} {q n cap : Nat} (hn : n = l.length) (hln : l.length ≤ 1000) (hq : ∀ i (hi : i < l.length), w.cell? ⟨q, i, none⟩ = some l[i].fn)
    (hE : ∀ a ∈ l, ∀ args w, (callFunc a.f args).run Try.prog w = .ok (.enter a.f args) w)
    (hA : ∀ a ∈ l, ∀ w', Grew w w' → Calls Try.prog a.f (#[.pointer (some ⟨b, 0, none⟩)] ++ a.caps) w' fun e w'' => e = .returned (.int .i64 a.code) ∧ Grew w' w'') :
    Calls Try.prog 29 #[.pointer (some ⟨t, 0, none⟩), .int .i64 fd, .slice (some ⟨q, 0, none⟩) n cap] w (AskPost w f.id b (askErr l)) := by
  have m1 := fun w => run_eql_map_nil (P := Try.prog) w 75 3 42 (some fm) Try.underlying75
  have g2 := h.c2
  obtain ⟨fk, fp, fi, fc⟩ := f
  simp only at hk hid hb ⊢
  subst hk
  have hlk := h.files.look (t := 75) (e := 42) Try.underlying75 (k := fd) hfd (zero42 _) true
  rw [vmap_get, hf] at hlk
  change (Instr.lookup 75 (.map (some fm)) (.int .i64 fd) true).run Try.prog w = .ok (.tuple #[.agg #[.int .u8 1, .int .u8 fp, .int .u64 fi, .bool fc], .bool true]) w at hlk
  have hg : Grew w (w.alloc (.cells #[.int .u8 1, .int .u8 fp, .int .u64 fi, .bool fc] 42)) := grew_alloc _ _
  have HT := h.grew hg
  have g3 := HT.c3
  have hsk := fun n => (HT.grew ((Off.refl (fun _ => False) _).drewN n)).socks.look_some (t := 76) (e := 82) Try.underlying76 (k := fi) hid (v := skPtr (b, d)) (by rw [vmap_get, hb]; rfl) false
  change ∀ n, (Instr.lookup 76 (.map (some sm)) (.int .u64 fi) false).run Try.prog ((w.alloc (.cells #[.int .u8 1, .int .u8 fp, .int .u64 fi, .bool fc] 42)).drewN n) = .ok (.pointer (some ⟨b, 0, none⟩)) ((w.alloc (.cells #[.int .u8 1, .int .u8 fp, .int .u64 fi, .bool fc] 42)).drewN n) at hsk
  have HG := Lib.hid hg
  have HQ := Lib.hid hq
  have HAA := Lib.hid hA
  have HEE := Lib.hid hE
  subst hn
  have HBx : Hid (∀ w', Grew (w.alloc (.cells #[.int .u8 1, .int .u8 fp, .int .u64 fi, .bool fc] 42)) w' → w'.cell? ⟨w.heap.size, 2, none⟩ = some (.int .u64 fi)) := Lib.hid fun w' hg => cell_of ((hg.block _ (by simp) fun h => h).trans (MapKept.heap_alloc w _).1) 2
  clear h hf hb hq hA hE hg HT
  go_enter Try.func29, Try.ntmps29
  go_wp2
  go_quiet (fail)
  clear hsk
  go_wp2_with fail
  go_loopw [53] (fun i wr => ∃ k : Nat, k ≤ l.length ∧ i = .int .i64 k ∧ Grew (w.alloc (.cells #[.int .u8 1, .int .u8 fp, .int .u64 fi, .bool fc] 42)) wr ∧ Hid (askErr l = askErr (l.drop k))) (fun i _ => l.length - (intOf i).toNat)
  case atStart => exact ⟨0, Nat.zero_le _, rfl, (Off.refl _ _).drewN _, Lib.hid rfl⟩
  case round =>
    obtain ⟨k, hkn, rfl, hgr, he⟩ := hrel
    have HGr := Lib.hid hgr
    by_cases hlt : k < l.length
    · have hc : wr.cell? ⟨q, k, none⟩ = some l[k].fn := by
        have := HQ.out k hlt
        rw [(HG.out.trans hgr).cell (World.block_lt_of_cell? _ _ this) fun h => h]; exact this
      have HD := Lib.hid (List.drop_eq_getElem_cons hlt)
      have HCall := Lib.hid (HAA.out l[k] (List.getElem_mem _) wr (HG.out.trans hgr))
      have hent := HEE.out l[k] (List.getElem_mem _)
      generalize l[k] = a at *
      obtain ⟨af, ac, acode⟩ := a
      have hfn : Ask.fn ⟨af, ac, acode⟩ = .func (.func af) #[] ac := rfl
      rw [hfn] at hc
      simp only at hent
      clear hgr hfn
      go_wp2_with fail
      refine HCall.out.mono ?_
      rintro e w2 ⟨rfl, hg2⟩
      have HG2 := Lib.hid hg2
      clear hg2 hent
      simp only
      by_cases h0 : acode = 0
      · subst h0
        go_wp2_with fail
        go_roundw
        case rel =>
          refine ⟨k + 1, by omega, by go_num, HGr.out.trans HG2.out, ?_⟩
          have := he.out
          rw [HD.out] at this
          exact Lib.hid (by rw [this]; rfl)
        case measure => simp [intOf]; omega
      · have hb : (acode == 0) = false := beq_eq_false_iff_ne.2 h0
        have hb2 : (acode != 0) = true := by rw [bne, hb]; rfl
        have HFin : Hid (askErr l = acode) := by
          have := he.out
          rw [HD.out] at this
          exact Lib.hid (by rw [this]; simp [askErr, h0])
        have H0 := Lib.hid h0
        clear h0
        go_wp2_with fail
        go_ret3
        refine ⟨?_, (HG.out.trans HGr.out).trans HG2.out⟩
        rw [HFin.out, if_neg H0.out]
        rfl
    · obtain rfl : k = l.length := by omega
      have hx := HBx.out wr hgr
      have HFin : Hid (askErr l = 0) := by
        have := he.out
        rw [List.drop_length] at this
        exact Lib.hid this
      clear hgr
      go_wp2_with fail
      go_ret3
      refine ⟨?_, HG.out.trans HGr.out⟩
      rw [HFin.out, if_pos rfl]
      rfl

/-- a descriptor that leads to no socket -/
theorem asks_bad (h : TabAt w t fm sm pp pm ownv most last own F L P) {fd : Int} (hfd : (Lit.int .i64 fd).wf = true) (hf : mget F fd = none) (q : Option Addr) (n cap : Nat) :
    Calls Try.prog 29 #[.pointer (some ⟨t, 0, none⟩), .int .i64 fd, .slice q n cap] w fun e w' => e = .returned (.tuple #[.int .u64 0, .pointer none, .int .i64 290]) ∧ Grew w w' := by
  have m1 := fun w => run_eql_map_nil (P := Try.prog) w 75 3 42 (some fm) Try.underlying75
  have g2 := h.c2
  have hlk := h.files.look (t := 75) (e := 42) Try.underlying75 (k := fd) hfd (zero42 _) true
  rw [vmap_get, hf] at hlk
  change (Instr.lookup 75 (.map (some fm)) (.int .i64 fd) true).run Try.prog w = .ok (.tuple #[.agg #[.int .u8 0, .int .u8 0, .int .u64 0, .bool false], .bool false]) w at hlk
  have hg : Grew w (w.alloc (.cells #[.int .u8 0, .int .u8 0, .int .u64 0, .bool false] 42)) := grew_alloc _ _
  have HT := h.grew hg
  have g3 := HT.c3
  obtain ⟨v, hv⟩ : ∃ v : Option Addr, ∀ n, (Instr.lookup 76 (.map (some sm)) (.int .u64 0) false).run Try.prog ((w.alloc (.cells #[.int .u8 0, .int .u8 0, .int .u64 0, .bool false] 42)).drewN n) = .ok (.pointer v) ((w.alloc (.cells #[.int .u8 0, .int .u8 0, .int .u64 0, .bool false] 42)).drewN n) := by
    cases hb : mget L 0 with
    | none => exact ⟨none, fun n => (HT.grew ((Off.refl (fun _ => False) _).drewN n)).socks.look_none (t := 76) (e := 82) Try.underlying76 (k := 0) (u64wf (by omega) (by omega)) (by rw [vmap_get, hb]; rfl) (zero82 _) false⟩
    | some x => exact ⟨some ⟨x.1, 0, none⟩, fun n => (HT.grew ((Off.refl (fun _ => False) _).drewN n)).socks.look_some (t := 76) (e := 82) Try.underlying76 (k := 0) (u64wf (by omega) (by omega)) (v := skPtr x) (by rw [vmap_get, hb]; rfl) false⟩
  have HG := Lib.hid hg
  clear h hf hg HT
  go_enter Try.func29, Try.ntmps29
  go_wp2
  go_quiet (fail)
  clear hv
  go_wp2_with fail
  go_ret3
  exact ⟨rfl, HG.out.drewN _⟩

/-- a descriptor of an epoll, or of a socket that lives no more -/
theorem asks_none (h : TabAt w t fm sm pp pm ownv most last own F L P) {fd : Int} (hfd : (Lit.int .i64 fd).wf = true) {f : FileV} (hf : mget F fd = some f) (hid : (Lit.int .u64 f.id).wf = true) (hb : f.kind ≠ 1 ∨ mget L f.id = none) (q : Option Addr) (n cap : Nat) :
    Calls Try.prog 29 #[.pointer (some ⟨t, 0, none⟩), .int .i64 fd, .slice q n cap] w fun e w' => e = .returned (.tuple #[.int .u64 0, .pointer none, .int .i64 290]) ∧ Grew w w' := by
  have m1 := fun w => run_eql_map_nil (P := Try.prog) w 75 3 42 (some fm) Try.underlying75
  have g2 := h.c2
  obtain ⟨fk, fp, fi, fc⟩ := f
  simp only at hid hb
  have hlk := h.files.look (t := 75) (e := 42) Try.underlying75 (k := fd) hfd (zero42 _) true
  rw [vmap_get, hf] at hlk
  change (Instr.lookup 75 (.map (some fm)) (.int .i64 fd) true).run Try.prog w = .ok (.tuple #[.agg #[.int .u8 fk, .int .u8 fp, .int .u64 fi, .bool fc], .bool true]) w at hlk
  have hg : Grew w (w.alloc (.cells #[.int .u8 fk, .int .u8 fp, .int .u64 fi, .bool fc] 42)) := grew_alloc _ _
  have HT := h.grew hg
  have g3 := HT.c3
  have HG := Lib.hid hg
  by_cases hk : fk = 1
  · have hn : mget L fi = none := hb.resolve_left (fun h => h hk)
    have hsk := fun n => (HT.grew ((Off.refl (fun _ => False) _).drewN n)).socks.look_none (t := 76) (e := 82) Try.underlying76 (k := fi) hid (by rw [vmap_get, hn]; rfl) (zero82 _) false
    change ∀ n, (Instr.lookup 76 (.map (some sm)) (.int .u64 fi) false).run Try.prog ((w.alloc (.cells #[.int .u8 fk, .int .u8 fp, .int .u64 fi, .bool fc] 42)).drewN n) = .ok (.pointer none) ((w.alloc (.cells #[.int .u8 fk, .int .u8 fp, .int .u64 fi, .bool fc] 42)).drewN n) at hsk
    subst hk
    clear h hf hg HT hn hb
    go_enter Try.func29, Try.ntmps29
    go_wp2
    go_quiet (fail)
    clear hsk
    go_wp2_with fail
    go_ret3
    exact ⟨rfl, HG.out.drewN _⟩
  · obtain ⟨v, hv⟩ : ∃ v : Option Addr, ∀ n, (Instr.lookup 76 (.map (some sm)) (.int .u64 fi) false).run Try.prog ((w.alloc (.cells #[.int .u8 fk, .int .u8 fp, .int .u64 fi, .bool fc] 42)).drewN n) = .ok (.pointer v) ((w.alloc (.cells #[.int .u8 fk, .int .u8 fp, .int .u64 fi, .bool fc] 42)).drewN n) := by
      cases hb : mget L fi with
      | none => exact ⟨none, fun n => (HT.grew ((Off.refl (fun _ => False) _).drewN n)).socks.look_none (t := 76) (e := 82) Try.underlying76 (k := fi) hid (by rw [vmap_get, hb]; rfl) (zero82 _) false⟩
      | some x => exact ⟨some ⟨x.1, 0, none⟩, fun n => (HT.grew ((Off.refl (fun _ => False) _).drewN n)).socks.look_some (t := 76) (e := 82) Try.underlying76 (k := fi) hid (v := skPtr x) (by rw [vmap_get, hb]; rfl) false⟩
    have hk1 : (fk == 1) = false := beq_eq_false_iff_ne.2 hk
    have hk2 := bne_of hk1
    clear h hf hg HT hb hk
    go_enter Try.func29, Try.ntmps29
    go_wp2
    go_quiet (fail)
    clear hv
    go_wp2_with fail
    go_ret3
    exact ⟨rfl, HG.out.drewN _⟩
end
end Go.Proofs.Ytnpfbdekomhonaa
