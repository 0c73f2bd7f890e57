/- 'may' of the ports. -/
import Derived.Test.YtnpfbdekomhonaaPrt2
import Derived.Lib.Hide
import Derived.Deep.QuietTactic
import Derived.BigQuiet
namespace Go.Proofs.Ytnpfbdekomhonaa
open Go.RowKit Stv

theorem zero46 (w : World) : (zeroValue 46).run Try.prog w = .ok (.agg #[.int .u8 0, .int .u32 0, .int .u16 0, .bool false]) w := by kernel_rfl

theorem pairs_get (P : List (Int × Bnd)) (id : Int) : mget (pairs P) id = (mget P id).map Bnd.val := by
  induction P with
  | nil => rfl
  | cons p r ih => obtain ⟨a, x⟩ := p; simp only [pairs, List.map_cons, mget] at ih ⊢; split <;> simp_all
theorem pairs_put (P : List (Int × Bnd)) (id : Int) (b : Bnd) : mput (pairs P) id b.val = pairs (mput P id b) := by
  induction P with
  | nil => rfl
  | cons p r ih => obtain ⟨a, x⟩ := p; simp only [pairs, List.map_cons, mput] at ih ⊢; split <;> simp_all
theorem pairs_del (P : List (Int × Bnd)) (id : Int) : mdel (pairs P) id = pairs (mdel P id) := by
  induction P with
  | nil => rfl
  | cons p r ih => obtain ⟨a, x⟩ := p; simp only [pairs, List.map_cons, mdel] at ih ⊢; split <;> simp_all

/-- what 'may' answers, of a kind and a port that may be -/
def mayErr (P : List (Int × Bnd)) (id : Int) : Int := if (mget P id).isSome then 7 else if 1024 ≤ P.length then 6 else 0

set_option maxHeartbeats 1000000 in
set_option maxRecDepth 100000 in
theorem may_any {w : World} {pp pm : Nat} {P : List (Int × Bnd)} (hP : PortsAt w pp pm P) {id : Int} (hid : (Lit.int .u64 id).wf = true) {b : Bnd} (hk : b.kind = 1 ∨ b.kind = 2) (pt : Bool) (hpt : pt = true → b.port ≠ 0) :
    Calls Try.prog 63 #[.pointer (some ⟨pp, 0, none⟩), .int .u64 id, b.val, .bool pt] w fun e w' => e = .returned (.int .i64 (mayErr P id)) ∧ Grew w w' := by
  obtain ⟨bk, bi, bp, bs⟩ := b
  have hv : Bnd.val ⟨bk, bi, bp, bs⟩ = .agg #[.int .u8 bk, .int .u32 bi, .int .u16 bp, .bool bs] := rfl
  rw [hv]
  have m1 := fun w => run_eql_map_nil (P := Try.prog) w 109 30 46 (some pm) Try.underlying109
  have hg : Grew w (w.alloc (.cells #[.int .u8 bk, .int .u32 bi, .int .u16 bp, .bool bs] 46)) := grew_alloc _ _
  have hP2 := hP.off hg (fun h => h) fun h => h
  have hlk := hP2.map.look (t := 109) (e := 46) Try.underlying109 (k := id) hid (zero46 _) true
  rw [pairs_get] at hlk
  have g0 := hP.c0
  have hpl := hP.lt
  have HL : Hid (∀ w', Grew w w' → (Builtin.len_ #[109] 3 #[.map (some pm)]).run Try.prog w' = .ok (.int .i64 (P.length : Int)) w') := Lib.hid fun w' hg => by
    have := (hg.map hP.map fun h => h).len (t := 109) (e := 46) Try.underlying109 3
    simpa [pairs] using this
  have HG := Lib.hid hg
  simp only at hk hpt
  clear hv hP hP2 hg
  unfold mayErr
  cases hx : mget P id with
  | some x =>
    obtain ⟨xk, xi, xp, xs⟩ := x
    rw [hx] at hlk
    change (Instr.lookup 109 (.map (some pm)) (.int .u64 id) true).run Try.prog _ = .ok (.tuple #[.agg #[.int .u8 xk, .int .u32 xi, .int .u16 xp, .bool xs], .bool true]) _ at hlk
    have HX := Lib.hid hx
    clear hx
    rcases hk with rfl | rfl <;> cases pt
    · clear hpt
      go_enter Try.func63, Try.ntmps63
      go_wp2_with fail
      go_ret
      exact ⟨rfl, HG.out.alloc _⟩
    · have hb : (bp == 0) = false := beq_eq_false_iff_ne.2 (hpt rfl)
      clear hpt
      go_enter Try.func63, Try.ntmps63
      go_wp2_with fail
      go_ret
      exact ⟨rfl, HG.out.alloc _⟩
    · clear hpt
      go_enter Try.func63, Try.ntmps63
      go_wp2_with fail
      go_ret
      exact ⟨rfl, HG.out.alloc _⟩
    · have hb : (bp == 0) = false := beq_eq_false_iff_ne.2 (hpt rfl)
      clear hpt
      go_enter Try.func63, Try.ntmps63
      go_wp2_with fail
      go_ret
      exact ⟨rfl, HG.out.alloc _⟩
  | none =>
    rw [hx] at hlk
    change (Instr.lookup 109 (.map (some pm)) (.int .u64 id) true).run Try.prog _ = .ok (.tuple #[.agg #[.int .u8 0, .int .u32 0, .int .u16 0, .bool false], .bool false]) _ at hlk
    have HX := Lib.hid hx
    have hln := HL.out _ (HG.out.alloc (.cells #[.int .u8 0, .int .u32 0, .int .u16 0, .bool false] 46))
    clear hx
    by_cases hfull : 1024 ≤ P.length
    · have HFu := Lib.hid hfull
      rcases hk with rfl | rfl <;> cases pt
      · clear hpt
        go_enter Try.func63, Try.ntmps63
        go_wp2_with fail
        go_ret
        exact ⟨rfl, HG.out.alloc _⟩
      · have hb : (bp == 0) = false := beq_eq_false_iff_ne.2 (hpt rfl)
        clear hpt
        go_enter Try.func63, Try.ntmps63
        go_wp2_with fail
        go_ret
        exact ⟨rfl, HG.out.alloc _⟩
      · clear hpt
        go_enter Try.func63, Try.ntmps63
        go_wp2_with fail
        go_ret
        exact ⟨rfl, HG.out.alloc _⟩
      · have hb : (bp == 0) = false := beq_eq_false_iff_ne.2 (hpt rfl)
        clear hpt
        go_enter Try.func63, Try.ntmps63
        go_wp2_with fail
        go_ret
        exact ⟨rfl, HG.out.alloc _⟩
    · have HFu := Lib.hid hfull
      rcases hk with rfl | rfl <;> cases pt
      · clear hpt
        go_enter Try.func63, Try.ntmps63
        go_wp2_with fail
        go_ret
        exact ⟨rfl, HG.out.alloc _⟩
      · have hb : (bp == 0) = false := beq_eq_false_iff_ne.2 (hpt rfl)
        clear hpt
        go_enter Try.func63, Try.ntmps63
        go_wp2_with fail
        go_ret
        exact ⟨rfl, HG.out.alloc _⟩
      · clear hpt
        go_enter Try.func63, Try.ntmps63
        go_wp2_with fail
        go_ret
        exact ⟨rfl, HG.out.alloc _⟩
      · have hb : (bp == 0) = false := beq_eq_false_iff_ne.2 (hpt rfl)
        clear hpt
        go_enter Try.func63, Try.ntmps63
        go_wp2_with fail
        go_ret
        exact ⟨rfl, HG.out.alloc _⟩
end Go.Proofs.Ytnpfbdekomhonaa
