/- Boxes that are evened out: the reference's walk, joined. -/
import Derived.Test.YtgefdbihdliolaaEven2
namespace Go.Proofs.Ytgefdbihdliolaa
open Go.Aw
set_option maxRecDepth 100000
set_option maxHeartbeats 4000000

theorem eo_mix (m : List (List Int)) : mixL m (revM m) = eoM m := by
  rw [eoM, mat_rows, mixL]
  refine mat_congr fun p q hp hq => ?_
  rw [eoN, show p / 2 * 2 + p % 2 = p by omega, show 2 * (q / 2) + q % 2 = q by omega]

theorem EvenOut_s (x y z : Int) (m : List (List Int)) (_hx : InR x) (_hy : InR y) (_hz : InR z) (_hm : OkM m) (km : SzM m) :
    FSpec Try.prog 36 [.ag [.c (.int .i64 (x)), .c (.int .i64 (y)), .c (.int .i64 (z)), .t (.rows m)]] (ex (.tu [.ag [.c (.int .i64 (if eoOk x y z m then 2 else 0)), .c (.int .i64 (if eoOk x y z m then 2 else 0)), .c (.int .i64 (if eoOk x y z m then W (z + z) else 0)), .own 0], .c (.bool (eoOk x y z m))]) [(0, .rows 23 3 true (eoR x y z m))]) := by
  refine view_box ?_
  refine fspec tyOk mx Try.func36 rfl (by kernel_rfl) rfl ?_
  conv => whnf
  refine ACall.use (l6Two_spec x y z m km) ?_
  conv => whnf
  refine ⟨fun h => ?_, fun h => ?_⟩
  · have h : pairB x y z m = false := by simpa using h
    have e : eoOk x y z m = false := by rw [eoOk, h]; rfl
    conv => whnf
    exact .inl ⟨e, rfl, rfl⟩
  · have h : pairB x y z m = true := by simpa using h
    have h' := h
    obtain ⟨rfl, rfl, g1, g2, g3, g4⟩ := pairB_spec h
    have h4 : ∀ r, r ∈ m → r.length = 4 := fun r hr => (g4 r hr).1
    have hrl : (revM m).length = 4 := boxRows_len _ 2 2
    have ew : W (z + z) = z + z := w64 (by omega) (by omega)
    conv => whnf
    refine ADraw.planX [5] tyOk mx (.q 0 (.q 1 (.last 2 (.last 3 (.last 4 (.inl 5 (.q 6 (.q 7 (.last 8 (.q 9 (.done)))))))))) : Plan) (by kernel_rfl) ?_
    conv => whnf
    refine ACall.useR (l2Flip_spec z m g3 h4) ?_
    conv => whnf
    refine ACall.useR (l2Mix_spec 2 2 z z m (revM m) g3 h4 hrl (boxRows_rows _ 2 2) 2 2) ?_
    rw [eo_mix]
    conv => whnf
    refine ACallS.inline tyOk mx Try.func79 rfl (by kernel_rfl) rfl ?_
    conv => whnf
    refine ACall.use (l2Box_spec 2 2 (W (z + z)) (eoM m) (box_sz _)) ?_
    conv => whnf
    refine ⟨fun h5 => ?_, fun h5 => ?_⟩
    · have h5 : goodB 2 2 (W (z + z)) (eoM m) = false := by simpa using h5
      have e : eoOk 2 2 z m = false := by
        by_cases hz : z + z ≤ 1000
        · have := (eo_good h').2 hz
          rw [ew] at h5
          rw [h5] at this
          exact absurd this (by decide)
        · rw [eoOk, decide_eq_false hz, Bool.and_false]
      conv => whnf
      refine ⟨rfl, ?_⟩
      conv => whnf
      repeat' (refine And.intro ?_ ?_ <;> (conv => whnf))
      all_goals exact .inl ⟨e, rfl, rfl⟩
    · have h5 : goodB 2 2 (W (z + z)) (eoM m) = true := by simpa using h5
      have e : eoOk 2 2 z m = true := by
        have hz : z + z ≤ 1000 := by
          obtain ⟨_, _, _, _, _, _, _, _, _, hz2, _⟩ := goodB_spec h5
          omega
        rw [eoOk, h', decide_eq_true hz]; rfl
      conv => whnf
      refine ⟨rfl, ?_⟩
      conv => whnf
      repeat' (refine And.intro ?_ ?_ <;> (conv => whnf))
      all_goals exact .inr ⟨e, rfl, rfl⟩
theorem EvenOut_bd (x y z : Int) (m : List (List Int)) (_hx : InR x) (_hy : InR y) (_hz : InR z) (_hm : OkM m) (_km : SzM m) : (eoR x y z m).length ≤ 1048576 ∧ tot (eoR x y z m) ≤ 1048576 := by
  unfold eoR
  split
  · obtain ⟨a, _, b⟩ := (box_sz (eoN m)).all
    exact ⟨a, b⟩
  · simp [tot]
end Go.Proofs.Ytgefdbihdliolaa
