/- slices.Sorted(maps.Keys(m)), at whole numbers. -/
import Derived.Test.YtagdolkfefbohaaKey2
import Derived.Test.YtagdolkfefbohaaSrt9
namespace Go.Proofs.Ytagdolkfefbohaa
open Go.RowKit Stv

/-- an owned row that is not nil, as one block -/
theorem row_of {w : World} {g : Nat} {v : Value} {ss : List Int} (h : w.ownsRow g 30 1 v ss.length (ss.map (Value.int .u64))) (hne : ss ≠ []) :
    ∃ (k cap : Nat) (R : List Value), g ≤ k ∧ v = .slice (some ⟨k, 0, none⟩) ss.length cap ∧ RowB w k ss.toArray R := by
  rcases h.2 with ⟨_, h0⟩ | ⟨k, cap, cur, hv, hk, hb, h1, h2, h3, h4⟩
  · exact absurd (List.eq_nil_of_length_eq_zero h0) hne
  · refine ⟨k, cap, cur.toList.drop ss.length, hk, hv, ?_⟩
    unfold RowB
    rw [hb]
    have e : ss.map (Value.int .u64) = cur.toList.take ss.length := by rw [← h4]; simp
    simp only [Option.some.injEq, Obj.cells.injEq, and_true]
    apply Array.toList_inj.1
    show cur.toList = ss.map (Value.int .u64) ++ cur.toList.drop ss.length
    rw [e, List.take_append_drop]

theorem grew_of_below {w w' : World} (h : Below w.heap.size w w') : Grew w w' := ⟨h.os, h.tape, h.output, h.size, fun k hk _ => h.block k hk⟩

theorem sorted_of_perm {l m : List Int} (h : l.Perm m) : sorted l = sorted m := by
  unfold sorted
  have tr : ∀ a b c : Int, (!ltI b a) = true → (!ltI c b) = true → (!ltI c a) = true := fun a b c => by simp [ltI]; omega
  have tot : ∀ a b : Int, ((!ltI b a) || (!ltI a b)) = true := fun a b => by simp [ltI]; omega
  refine List.Perm.eq_of_pairwise (le := fun a b => (!ltI b a) = true) (fun a b _ _ h1 h2 => by simp [ltI] at h1 h2; omega) (List.pairwise_mergeSort tr tot _) (List.pairwise_mergeSort tr tot _) ?_
  exact ((List.mergeSort_perm l _).trans h).trans (List.mergeSort_perm m _).symm

/-- slices.Sorted(maps.Keys(m)) -/
theorem sorted_any (Bm b : Nat) (L : List (Int × Value)) (w : World) (hBm : Bm < w.heap.size) (hm : w.cell? ⟨Bm, 0, none⟩ = some (.map (some b))) (hown : MapIs KU w b L) (hlen : L.length ≤ 65535) :
    Calls Try.prog 24 #[.func (.func 28) #[] #[.pointer (some ⟨Bm, 0, none⟩)]] w fun e W' => ∃ v, e = .returned v ∧ Grew w W' ∧
      ((v = .slice none 0 0 ∧ L = []) ∨ ∃ (k cap : Nat) (R : List Value), w.heap.size ≤ k ∧ v = .slice (some ⟨k, 0, none⟩) L.length cap ∧ RowB W' k (sorted (L.map (·.1))).toArray R) := by
  have c := collect_any Bm b L w hBm hm hown (by omega)
  have C := Lib.hid c
  clear c hm hown
  go_enter Try.func24, Try.ntmps24
  go_wp2_with fail
  refine (C.out).mono ?_
  rintro e w1 ⟨v, ss, rfl, hp, hr, hn, hb⟩
  have HG := Lib.hid (grew_of_below hb)
  have hl : ss.length = L.length := by have := hp.length_eq; simpa using this
  by_cases hne : ss = []
  · have hv := hn.2 hne
    subst hv
    have hL : L = [] := List.eq_nil_of_length_eq_zero (by rw [← hl, hne]; rfl)
    clear hp hr hn hb
    go_wp2_with fail
    refine (sort_nil _ _ _).mono ?_
    rintro e w2 ⟨rfl, rfl⟩
    go_wp2
    go_ret
    exact ⟨_, rfl, HG.out, .inl ⟨rfl, hL⟩⟩
  · obtain ⟨k, cap, R, hk, rfl, hrow⟩ := row_of hr hne
    have hs := sorted_of_perm hp
    have HROW := Lib.hid hrow
    have HS := Lib.hid hs
    have hz : ss.toArray.size ≤ 65535 := by simp; omega
    have c := sort_any (n := ss.length) (cap := cap) hrow (by simp) hz
    have C2 := Lib.hid c
    have HLn := Lib.hid hl
    clear hp hr hn hb hrow hs c hz hl
    go_wp2_with fail
    refine (C2.out).mono ?_
    rintro e w2 ⟨rfl, d', hd, h⟩
    have H := Lib.hid h
    have HD := Lib.hid hd
    clear h hd
    go_wp2
    go_ret
    refine ⟨_, rfl, ?_, .inr ⟨k, cap, R, hk, by rw [HLn.out]; rfl, ?_⟩⟩
    · exact HG.out.next H.out.but fun i hi => .inr (by rw [hi]; exact hk)
    · have e : d' = (sorted (L.map (·.1))).toArray := Array.toList_inj.1 (by rw [HD.out, ← HS.out])
      rw [← e]; exact H.out.row
end Go.Proofs.Ytagdolkfefbohaa
