/- Scenes as arguments and results: sizes, copies, comparing, marks. -/
import Derived.Test.YtljlhbgkmkdphaaScene0
namespace Go.Proofs.Ytljlhbgkmkdphaa
open Go.Aw
set_option maxRecDepth 100000

def szSceneF (m : List (List Int)) (s : List Int) (left : Int) : Int := if szSS m left < 0 then -1 else szS s (szSS m left)
theorem szS_tot {s : List Int} {left : Int} (h : 0 ≤ szS s left) : szS s left = left - s.length := by
  unfold szS at h ⊢
  split at h
  · omega
  · rename_i hn; rw [if_neg hn]
theorem szScene_tot {m : List (List Int)} {s : List Int} {left : Int} (h : 0 ≤ szSceneF m s left) : 0 ≤ szSceneF m s left ∧ szSceneF m s left = left - m.length - tot m - s.length := by
  refine ⟨h, ?_⟩
  unfold szSceneF at h ⊢
  split at h
  · omega
  · rename_i hn
    rw [if_neg hn, szS_tot h, (szSS_tot (Int.not_lt.1 hn)).2]
theorem szScene_spec (e : Int) (m : List (List Int)) (s : List Int) (left : Int) (h0 : -1 ≤ left) (h1 : left ≤ 1048576) (hm : OkM m) (hs : OkI s) :
    FSpec Try.prog 20 [.ag [.c (.int .i64 e), .t (.rows m), .t (.ints .i64 s)], .c (.int .i64 left)] (ex (.c (.int .i64 (szSceneF m s left))) []) := by
  refine fspec tyOk mx Try.func20 rfl (by kernel_rfl) rfl ?_
  conv => whnf
  refine ACall.use (szIntSS_spec m left h0 h1 hm.1 hm.len) ?_
  refine ⟨fun h => ?_, fun h => ?_⟩
  · have h := of_decide_eq_true h
    conv => whnf
    exact ⟨by rw [szSceneF, if_pos h], rfl⟩
  · have h := of_decide_eq_false h
    have ht := szSS_tot (Int.not_lt.1 h)
    conv => whnf
    refine ACall.use (szIntS_spec s (szSS m left) (by omega) (by omega) hs.1) ?_
    refine ⟨fun h2 => ?_, fun h2 => ?_⟩
    · have h2 := of_decide_eq_true h2
      conv => whnf
      refine ⟨?_, rfl⟩
      rw [szSceneF, if_neg h]
      unfold szS at h2 ⊢
      split
      · rfl
      · rename_i hn; rw [if_neg hn] at h2; omega
    · conv => whnf
      exact ⟨by rw [szSceneF, if_neg h], rfl⟩

theorem toScene_spec (e : Int) (m : List (List Int)) (s : List Int) (km : SzM m) (ks : SzI s) :
    FSpec Try.prog 22 [.ag [.c (.int .i64 e), .t (.rows m), .t (.ints .i64 s)]] (ex (.ag [.c (.int .i64 e), .own 0, .own 1]) [(0, .rows 30 3 true m), (1, .ints 3 .i64 s)]) := by
  obtain ⟨i, j, z⟩ := km.all
  refine fspec tyOk mx Try.func22 rfl (by kernel_rfl) rfl ?_
  conv => whnf
  refine ACall.use (toIntSS_spec m i j) ?_
  conv => whnf
  refine ACall.use (toIntS_spec s ks) ?_
  conv => whnf
  exact ⟨rfl, rfl⟩

theorem eqScene_refl (e : Int) (m : List (List Int)) (s : List Int) (hm : m.length ≤ 9223372036854775807) (hr : ∀ r, r ∈ m → r.length ≤ 9223372036854775807) (hs : s.length ≤ 9223372036854775807) :
    FSpec Try.prog 25 [.ag [.c (.int .i64 e), .t (.rows m), .t (.ints .i64 s)], .ag [.c (.int .i64 e), .t (.rows m), .t (.ints .i64 s)]] (ex (.c (.bool true)) []) := by
  have h := eqScene_spec e e m m s s hm hr hs
  rwa [decide_eq_true ⟨rfl, rfl, rfl⟩] at h
theorem eqSceneA_refl (e : Int) (m : List (List Int)) (s : List Int) (km : SzM m) (ks : SzI s) :
    FSpec Try.prog 25 [.ag [.c (.int .i64 e), .t (.rows m), .t (.ints .i64 s)], .ag [.c (.int .i64 e), .t (.rows m), .t (.ints .i64 s)]] (ex (.c (.bool true)) []) := by
  obtain ⟨i, j, z⟩ := km.all
  have ks' : s.length ≤ 1048576 := ks
  exact eqScene_refl e m s (by omega) (fun r hr => by have := j r hr; omega) (by omega)
end Go.Proofs.Ytljlhbgkmkdphaa
