/- Games as arguments: sizes, copies, comparing, marks. -/
import Derived.Test.YtgefdbihdliolaaMark
namespace Go.Proofs.Ytgefdbihdliolaa
open Go.Aw
set_option maxRecDepth 100000

def szGameF (s : List Int) (m : List (List Int)) (left : Int) : Int := if szS s left < 0 then -1 else if szSS m (szS s left) < 0 then -1 else szSS m (szS s left)
theorem szGame_tot {m : List (List Int)} {s : List Int} {left : Int} (h : 0 ≤ szGameF s m left) : 0 ≤ szGameF s m left ∧ szGameF s m left = left - s.length - m.length - tot m := by
  refine ⟨h, ?_⟩
  unfold szGameF at h ⊢
  split at h
  · omega
  · rename_i hn
    rw [if_neg hn]
    split at h
    · omega
    · rename_i hn2
      rw [if_neg hn2, (szSS_tot (Int.not_lt.1 hn2)).2]
      have : szS s left = left - s.length := by
        unfold szS at hn ⊢
        split at hn
        · omega
        · rename_i h4; rw [if_neg h4]
      omega
theorem szGame_spec (x y : Int) (s : List Int) (m : List (List Int)) (left : Int) (h0 : -1 ≤ left) (h1 : left ≤ 1048576) (hs : OkI s) (hm : OkM m) :
    FSpec Try.prog 46 [.ag [.c (.int .i64 x), .c (.int .i64 y), .t (.ints .i64 s), .t (.rows m)], .c (.int .i64 left)] (ex (.c (.int .i64 (szGameF s m left))) []) := by
  have hb : -1 ≤ szS s left ∧ szS s left ≤ 1048576 := by unfold szS; split <;> omega
  refine fspec tyOk mx Try.func46 rfl (by kernel_rfl) rfl ?_
  conv => whnf
  refine ACall.use (szIntS_spec s left h0 h1 hs.1) ?_
  refine ⟨fun h => ?_, fun h => ?_⟩
  · have h := of_decide_eq_true h
    conv => whnf
    exact ⟨by rw [szGameF, if_pos h], rfl⟩
  · have h := of_decide_eq_false h
    conv => whnf
    refine ACall.use (szIntSS_spec m (szS s left) hb.1 hb.2 hm.1 hm.len) ?_
    refine ⟨fun h2 => ?_, fun h2 => ?_⟩
    · have h2 := of_decide_eq_true h2
      conv => whnf
      exact ⟨by rw [szGameF, if_neg h, if_pos h2], rfl⟩
    · have h2 := of_decide_eq_false h2
      conv => whnf
      exact ⟨by rw [szGameF, if_neg h, if_neg h2], rfl⟩

theorem toGame_spec (x y : Int) (s : List Int) (m : List (List Int)) (ks : SzI s) (km : SzM m) :
    FSpec Try.prog 48 [.ag [.c (.int .i64 x), .c (.int .i64 y), .t (.ints .i64 s), .t (.rows m)]] (ex (.ag [.c (.int .i64 x), .c (.int .i64 y), .own 0, .own 1]) [(0, .ints 3 .i64 s), (1, .rows 23 3 true m)]) := by
  obtain ⟨i, j, z⟩ := km.all
  refine fspec tyOk mx Try.func48 rfl (by kernel_rfl) rfl ?_
  conv => whnf
  refine ACall.use (toIntS_spec s ks) ?_
  conv => whnf
  refine ACall.use (toIntSS_spec m i j) ?_
  conv => whnf
  exact ⟨rfl, rfl⟩

theorem eqGameA_refl (x y : Int) (s : List Int) (m : List (List Int)) (ks : SzI s) (km : SzM m) :
    FSpec Try.prog 50 [.ag [.c (.int .i64 x), .c (.int .i64 y), .t (.ints .i64 s), .t (.rows m)], .ag [.c (.int .i64 x), .c (.int .i64 y), .t (.ints .i64 s), .t (.rows m)]] (ex (.c (.bool true)) []) := by
  obtain ⟨i, j, z⟩ := km.all
  have ks' : s.length ≤ 1048576 := ks
  refine fspec tyOk mx Try.func50 rfl (by kernel_rfl) rfl ?_
  conv => whnf
  refine ⟨fun h => absurd h (by simp), fun _ => ?_⟩
  conv => whnf
  refine ⟨fun h => absurd h (by simp), fun _ => ?_⟩
  conv => whnf
  refine ACall.use (eqIntS_spec s s (by omega)) ?_
  refine ⟨fun h => absurd h (by simp), fun _ => ?_⟩
  conv => whnf
  refine ACall.use (eqIntSS_spec m m (by omega) (fun r hr => by have := j r hr; omega)) ?_
  refine ⟨fun h => absurd h (by simp), fun _ => ?_⟩
  conv => whnf
  exact ⟨rfl, rfl⟩
end Go.Proofs.Ytgefdbihdliolaa
