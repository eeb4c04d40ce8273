/- Boxes compared. -/
import Derived.Test.YtgefdbihdliolaaMark
namespace Go.Proofs.Ytgefdbihdliolaa
open Go.Aw
set_option maxRecDepth 100000
theorem eqBox_refl (x y z : Int) (m : List (List Int)) (hm : m.length ≤ 9223372036854775807) (hr : ∀ r, r ∈ m → r.length ≤ 9223372036854775807) :
    FSpec Try.prog 30 [.ag [.c (.int .i64 x), .c (.int .i64 y), .c (.int .i64 z), .t (.rows m)], .ag [.c (.int .i64 x), .c (.int .i64 y), .c (.int .i64 z), .t (.rows m)]] (ex (.c (.bool true)) []) := by
  refine fspec tyOk mx Try.func30 rfl (by kernel_rfl) rfl ?_
  conv => whnf
  refine ⟨fun h => absurd h (by simp), fun _ => ?_⟩
  conv => whnf
  refine ⟨fun h => absurd h (by simp), fun _ => ?_⟩
  conv => whnf
  refine ⟨fun h => absurd h (by simp), fun _ => ?_⟩
  conv => whnf
  refine ACall.use (eqIntSS_spec m m hm hr) ?_
  refine ⟨fun h => absurd h (by simp), fun _ => ?_⟩
  conv => whnf
  exact ⟨rfl, rfl⟩
end Go.Proofs.Ytgefdbihdliolaa
