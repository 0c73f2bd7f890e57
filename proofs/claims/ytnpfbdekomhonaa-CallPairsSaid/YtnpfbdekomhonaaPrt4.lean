/- 'Bind' of the ports. -/
import Derived.Test.YtnpfbdekomhonaaPrt3
namespace Go.Proofs.Ytnpfbdekomhonaa
open Go.RowKit Stv Go.Shelf
attribute [local go_sem] Oper.semAt_some

theorem cells_kept {W W' : World} {row : Option Nat} {B : Nat} {c : Array Value} {t : TypeId} {f : Nat × Nat} (h : W.heap[B]? = some (.cells c t f)) (hg : W.grownBy W' row) (hr : ∀ r, row = some r → ∃ o : Obj, W.heap[r]? = some o ∧ o.isCells = false) : W'.heap[B]? = some (.cells c t f) :=
  (hg.block B (Array.getElem?_eq_some_iff.1 h).1 (fun e => by obtain ⟨o, ho, hc⟩ := hr B e.symm; rw [h] at ho; cases ho; cases hc)).trans h
theorem block_own {β : Type} (B : Nat) (c : Array Value) (t : TypeId) (f : Nat × Nat) : Own (fun (_ : β) W => W.heap[B]? = some (.cells c t f)) := fun _ _ _ _ hs hg hr => cells_kept hs hg hr

/-- do they conflict, of a place that a place meets? -/
def conf (b x : Bnd) : Bool := !x.share || !b.share || x.ip != b.ip
def confB (P : List (Int × Bnd)) (b : Bnd) : Bool := P.any fun x => meets b x.2 && conf b x.2
def bindErr (P : List (Int × Bnd)) (id : Int) (b : Bnd) : Int := if mayErr P id ≠ 0 then mayErr P id else if confB P b = true then 220 else 0
def BindPost (w : World) (pp pm : Nat) (P : List (Int × Bnd)) (id : Int) (b : Bnd) (e : Ending) (w' : World) : Prop :=
  e = .returned (.int .i64 (bindErr P id b)) ∧ PortsAt w' pp pm (if bindErr P id b = 0 then mput P id b else P) ∧ Off (fun k => k = pm) w w'

theorem confB_no {P : List (Int × Bnd)} {b : Bnd} {ys : List (Int × Bnd)} (h : ∀ x ∈ P, meets b x.2 = true → x ∈ ys) (h2 : ∀ x ∈ ys, conf b x.2 = false) : confB P b = false := by
  unfold confB
  rw [List.any_eq_false]
  intro x hx
  cases hm : meets b x.2 with
  | false => simp
  | true => simp [h2 x (h x hx hm)]
theorem confB_yes {P : List (Int × Bnd)} {b : Bnd} {x : Int × Bnd} (hx : x ∈ P) (hm : meets b x.2 = true) (hc : conf b x.2 = true) : confB P b = true := by
  unfold confB
  rw [List.any_eq_true]
  exact ⟨x, hx, by simp [hm, hc]⟩

set_option maxRecDepth 100000 in
set_option maxHeartbeats 4000000 in
theorem bind_may (pp pm : Nat) (P : List (Int × Bnd)) (b : Bnd) (id : Int) (hid : (Lit.int .u64 id).wf = true) (hk : b.kind = 1 ∨ b.kind = 2) (hpt : b.port ≠ 0) (w : World) (hP : PortsAt w pp pm P) (hm0 : mayErr P id ≠ 0) :
    Calls Try.prog 37 #[.pointer (some ⟨pp, 0, none⟩), .int .u64 id, b.val] w (BindPost w pp pm P id b) := by
  have hmay := may_any (hP.off ((grew_alloc w (.cells b.cells 46)).trans (grew_alloc _ (.cells #[.int .i64 0] 27))) (fun h => h) fun h => h) hid hk true (fun _ => hpt)
  have hfin : Hid (∀ w', Off (fun k => w.heap.size ≤ k) w w' → BindPost w pp pm P id b (.returned (.int .i64 (mayErr P id))) w') := Lib.hid fun w' ho => by
    have e : bindErr P id b = mayErr P id := by unfold bindErr; rw [if_pos hm0]
    refine ⟨by rw [e], ?_, ⟨ho.os, ho.tape, ho.output, ho.size, fun k hk _ => ho.block k hk (by omega)⟩⟩
    rw [e, if_neg hm0]
    exact hP.off ho (by have := hP.lt; omega) (by have := hP.map.lt; omega)
  obtain ⟨bk, bi, bp, bs⟩ := b
  have hv : Bnd.val ⟨bk, bi, bp, bs⟩ = .agg #[.int .u8 bk, .int .u32 bi, .int .u16 bp, .bool bs] := rfl
  have hc : Bnd.cells ⟨bk, bi, bp, bs⟩ = #[.int .u8 bk, .int .u32 bi, .int .u16 bp, .bool bs] := rfl
  rw [hv] at hmay ⊢
  rw [hc] at hmay
  have HMay := Lib.hid hmay
  have hne : (mayErr P id != 0) = true := by simpa using hm0
  have hne2 : (mayErr P id == 0) = false := by simpa using hm0
  clear hmay hk hpt hv hc hP hm0
  go_enter Try.func37, Try.ntmps37
  go_wp2_with fail
  refine HMay.out.mono ?_
  rintro e w1 ⟨rfl, hg1⟩
  have hr : Boxed w1 (w.heap.size + 1) 27 (.int .i64 0) := by
    have := Boxed.new (w.alloc (.cells #[.int .u8 bk, .int .u32 bi, .int .u16 bp, .bool bs] 46)) 27 (.int .i64 0)
    rw [World.size_alloc] at this
    exact (hg1.block _ (by simp) fun h => h).trans this
  have hc := hr.cell
  have hf := hr.frozen
  have HG := Lib.hid (((grew_alloc _ _).trans (grew_alloc _ _)).trans hg1)
  clear hg1 hr
  go_wp2_with fail
  have hc5 := World.cell?_setCell_same' w1 ⟨w.heap.size + 1, 0, none⟩ (.int .i64 (mayErr P id)) (by rw [hc]; rfl)
  refine bodyPost_ret (v := .int .i64 (mayErr P id)) (by simp [results, Try.f37, go_sem, hc5]) rfl ?_
  exact hfin.out _ ((HG.out.mono fun _ _ h => h.elim).setCell (.inl (by simp)) _)
end Go.Proofs.Ytnpfbdekomhonaa
