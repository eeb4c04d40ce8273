/- Boxes as arguments and results: sizes, copies, comparing, marks. -/
import Derived.Test.YtgefdbihdliolaaEqBox
namespace Go.Proofs.Ytgefdbihdliolaa
open Go.Aw
set_option maxRecDepth 100000

def szBoxF (m : List (List Int)) (left : Int) : Int := if szSS m left < 0 then -1 else szSS m left
theorem szBox_tot {m : List (List Int)} {left : Int} (h : 0 ≤ szBoxF m left) : 0 ≤ szBoxF m left ∧ szBoxF m left = left - m.length - tot m := by
  refine ⟨h, ?_⟩
  unfold szBoxF at h ⊢
  split at h
  · omega
  · rename_i hn
    rw [if_neg hn, (szSS_tot (Int.not_lt.1 hn)).2]
theorem szBox_spec (x y z : Int) (m : List (List Int)) (left : Int) (h0 : -1 ≤ left) (h1 : left ≤ 1048576) (hm : OkM m) :
    FSpec Try.prog 35 [.ag [.c (.int .i64 x), .c (.int .i64 y), .c (.int .i64 z), .t (.rows m)], .c (.int .i64 left)] (ex (.c (.int .i64 (szBoxF m left))) []) := by
  refine fspec tyOk mx Try.func35 rfl (by kernel_rfl) rfl ?_
  conv => whnf
  refine ACall.use (szIntSS_spec m left h0 h1 hm.1 hm.len) ?_
  refine ⟨fun h => ?_, fun h => ?_⟩
  · have h := of_decide_eq_true h
    conv => whnf
    exact ⟨by rw [szBoxF, if_pos h], rfl⟩
  · have h := of_decide_eq_false h
    conv => whnf
    exact ⟨by rw [szBoxF, if_neg h], rfl⟩

theorem toBox_spec (x y z : Int) (m : List (List Int)) (km : SzM m) :
    FSpec Try.prog 37 [.ag [.c (.int .i64 x), .c (.int .i64 y), .c (.int .i64 z), .t (.rows m)]] (ex (.ag [.c (.int .i64 x), .c (.int .i64 y), .c (.int .i64 z), .own 0]) [(0, .rows 23 3 true m)]) := by
  obtain ⟨i, j, z⟩ := km.all
  refine fspec tyOk mx Try.func37 rfl (by kernel_rfl) rfl ?_
  conv => whnf
  refine ACall.use (toIntSS_spec m i j) ?_
  conv => whnf
  exact ⟨rfl, rfl⟩

theorem eqBoxA_refl (x y z : Int) (m : List (List Int)) (km : SzM m) :
    FSpec Try.prog 30 [.ag [.c (.int .i64 x), .c (.int .i64 y), .c (.int .i64 z), .t (.rows m)], .ag [.c (.int .i64 x), .c (.int .i64 y), .c (.int .i64 z), .t (.rows m)]] (ex (.c (.bool true)) []) := by
  obtain ⟨i, j, z⟩ := km.all
  exact eqBox_refl _ _ _ m (by omega) (fun r hr => by have := j r hr; omega)
end Go.Proofs.Ytgefdbihdliolaa
