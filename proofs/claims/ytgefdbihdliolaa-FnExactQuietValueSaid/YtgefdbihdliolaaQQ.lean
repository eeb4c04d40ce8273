/- QuietBest and QuietValue, reference and program. -/
import Derived.Test.YtgefdbihdliolaaQBest
namespace Go.Proofs.Ytgefdbihdliolaa
open Go.Aw
set_option maxRecDepth 100000
set_option maxHeartbeats 4000000

theorem QuietBest_s (x y : Int) (s : List Int) (m : List (List Int)) (_hx : InR x) (_hy : InR y) (_hs : OkI s) (_hm : OkM m) (ks : SzI s) (km : SzM m) :
    FSpec Try.prog 47 [.ag [.c (.int .i64 (x)), .c (.int .i64 (y)), .t (.ints .i64 s), .t (.rows m)]] (ex (.tu [.c (.int .i64 (qvB x y s m)), .c (.bool (qgOk x y s m))]) []) := by
  refine fspec tyOk mx Try.func47 rfl (by kernel_rfl) rfl ?_
  conv => whnf
  refine ACall.use (l6Game_spec x y s m ks km) ?_
  conv => whnf
  refine ⟨fun h => ?_, fun h => ?_⟩
  · have h : qgOk x y s m = false := by simpa using h
    conv => whnf
    exact ⟨by rw [qvB, h]; rfl, rfl⟩
  · have h : qgOk x y s m = true := by simpa using h
    obtain ⟨_, _, _, hs, hm, _, h4, _⟩ := qgOk_spec h
    have hl : (funG s m).length = 4 := by simp [funG, hm]
    conv => whnf
    refine ACall.use (l4Functional_spec x y s m (by omega) (by omega) h4) ?_
    conv => whnf
    refine ACall.use (l6Best_spec (funG s m) hl (funG_rows h4)) ?_
    conv => whnf
    exact ⟨by rw [qvB, h]; rfl, rfl⟩

theorem QuietValue_s (x y : Int) (s : List Int) (m : List (List Int)) (_hx : InR x) (_hy : InR y) (_hs : OkI s) (_hm : OkM m) (ks : SzI s) (km : SzM m) :
    FSpec Try.prog 51 [.ag [.c (.int .i64 (x)), .c (.int .i64 (y)), .t (.ints .i64 s), .t (.rows m)]] (ex (.tu [.c (.int .i64 (qvV x y s m)), .c (.bool (qgOk x y s m))]) []) := by
  have hl24 := exL_len 24
  have hb := bIx_le (exW (funG s m)) 23
  refine fspec tyOk mx Try.func51 rfl (by kernel_rfl) rfl ?_
  conv => whnf
  refine ACall.use (l6Game_spec x y s m ks km) ?_
  conv => whnf
  refine ⟨fun h => ?_, fun h => ?_⟩
  · have h : qgOk x y s m = false := by simpa using h
    conv => whnf
    exact ⟨by rw [qvV, h]; rfl, rfl⟩
  · have h : qgOk x y s m = true := by simpa using h
    obtain ⟨_, _, _, hs, hm, _, h4, _⟩ := qgOk_spec h
    have hl : (funG s m).length = 4 := by simp [funG, hm]
    conv => whnf
    refine ACall.use (l4Functional_spec x y s m (by omega) (by omega) h4) ?_
    conv => whnf
    refine ACall.use l6Extremes_spec ?_
    conv => whnf
    refine ACall.use (l6Best_spec (funG s m) hl (funG_rows h4)) ?_
    conv => whnf
    refine ⟨bIx (exW (funG s m)) 23, rfl, by omega, ?_⟩
    conv => whnf
    rw [exL_get (i := bIx (exW (funG s m)) 23) (by omega)]
    refine ACall.use (exW_spec (funG s m) hl (funG_rows h4) (bIx (exW (funG s m)) 23) 2 2 2) ?_
    conv => whnf
    exact ⟨by rw [qvV, h]; rfl, rfl⟩

theorem QuietBest_i (x y : Int) (s : List Int) (m : List (List Int)) (_hx : InR x) (_hy : InR y) (_hs : OkI s) (_hm : OkM m) (ks : SzI s) (km : SzM m) :
    FSpec Try.prog 49 [.ag [.c (.int .i64 (x)), .c (.int .i64 (y)), .t (.ints .i64 s), .t (.rows m)]] (ex (.tu [.c (.int .i64 (qvB x y s m)), .c (.bool (qgOk x y s m))]) []) := by
  have no : qgOk x y s m = false → qvB x y s m = 0 := fun h => by rw [qvB, h]; rfl
  refine fspec tyOk mx Try.func49 rfl (by kernel_rfl) rfl ?_
  conv => whnf
  refine ACall.use (iIsGame_spec x y s m ks km) ?_
  conv => whnf
  refine ⟨fun h => ?_, fun h => ?_⟩
  · have h : goodG x y s m = true := by simpa using h
    conv => whnf
    refine ACall.use (hasTwo_spec x y) ?_
    conv => whnf
    refine ⟨fun h2 => ?_, fun h2 => ?_⟩
    · have e : qgOk x y s m = false := by
        have h2 : (decide (x = 2) && decide (y = 2)) = false := by simpa only [Bool.not_eq_true'] using h2
        rw [qgOk, h2, Bool.and_false]
      conv => whnf
      exact ⟨by rw [no e, e], rfl⟩
    · have e : qgOk x y s m = true := by
        have h2 : (decide (x = 2) && decide (y = 2)) = true := by simpa only [Bool.not_eq_false'] using h2
        rw [qgOk, h2, h]; rfl
      conv => whnf
      refine ACall.use (quietBest_spec x y s m ks km e) ?_
      conv => whnf
      exact ⟨by rw [qvB, e]; rfl, rfl⟩
  · have h : goodG x y s m = false := by simpa using h
    have e : qgOk x y s m = false := by rw [qgOk, h, Bool.false_and]
    conv => whnf
    (repeat (conv => whnf); (first | refine ⟨fun h => absurd h (by decide), fun _ => ?_⟩ | refine ⟨fun _ => ?_, fun h => absurd h (by decide)⟩)); conv => whnf
    exact ⟨by rw [no e, e], rfl⟩

theorem QuietValue_i (x y : Int) (s : List Int) (m : List (List Int)) (_hx : InR x) (_hy : InR y) (_hs : OkI s) (_hm : OkM m) (ks : SzI s) (km : SzM m) :
    FSpec Try.prog 52 [.ag [.c (.int .i64 (x)), .c (.int .i64 (y)), .t (.ints .i64 s), .t (.rows m)]] (ex (.tu [.c (.int .i64 (qvV x y s m)), .c (.bool (qgOk x y s m))]) []) := by
  have no : qgOk x y s m = false → qvV x y s m = 0 := fun h => by rw [qvV, h]; rfl
  refine fspec tyOk mx Try.func52 rfl (by kernel_rfl) rfl ?_
  conv => whnf
  refine ACall.use (iIsGame_spec x y s m ks km) ?_
  conv => whnf
  refine ⟨fun h => ?_, fun h => ?_⟩
  · have h : goodG x y s m = true := by simpa using h
    conv => whnf
    refine ACall.use (hasTwo_spec x y) ?_
    conv => whnf
    refine ⟨fun h2 => ?_, fun h2 => ?_⟩
    · have e : qgOk x y s m = false := by
        have h2 : (decide (x = 2) && decide (y = 2)) = false := by simpa only [Bool.not_eq_true'] using h2
        rw [qgOk, h2, Bool.and_false]
      conv => whnf
      exact ⟨by rw [no e, e], rfl⟩
    · have e : qgOk x y s m = true := by
        have h2 : (decide (x = 2) && decide (y = 2)) = true := by simpa only [Bool.not_eq_false'] using h2
        rw [qgOk, h2, h]; rfl
      conv => whnf
      refine ACall.use (quietBest_spec x y s m ks km e) ?_
      conv => whnf
      exact ⟨by rw [qvV, e]; rfl, rfl⟩
  · have h : goodG x y s m = false := by simpa using h
    have e : qgOk x y s m = false := by rw [qgOk, h, Bool.false_and]
    conv => whnf
    (repeat (conv => whnf); (first | refine ⟨fun h => absurd h (by decide), fun _ => ?_⟩ | refine ⟨fun _ => ?_, fun h => absurd h (by decide)⟩)); conv => whnf
    exact ⟨by rw [no e, e], rfl⟩
end Go.Proofs.Ytgefdbihdliolaa
