/- ExtremeBox, reference and program. -/
import Derived.Test.YtkomndcehdneaaaM2
namespace Go.Proofs.Ytkomndcehdneaaa
open Go.Aw
set_option maxRecDepth 100000
set_option maxHeartbeats 4000000

def exOk (k : Int) : Bool := inR k 0 23
def exR (k : Int) : List (List Int) := if exOk k then exRow k.toNat else []
theorem exOk_nat {k : Int} (h : exOk k = true) : ∃ n : Nat, k = n ∧ n < 24 := by
  have := inR_iff.1 h
  exact ⟨k.toNat, by omega, by omega⟩

theorem ExtremeBox_s (k : Int) (_hk : InR k) : FSpec Try.prog 97 [.c (.int .i64 (k))] (ex (.tu [.ag [.c (.int .i64 (if exOk k then 2 else 0)), .c (.int .i64 (if exOk k then 2 else 0)), .c (.int .i64 (if exOk k then 2 else 0)), .t (.rows (exR k))], .c (.bool (exOk k))]) []) := by
  have h : FSpec Try.prog 97 [.c (.int .i64 (k))] (fun v h => (exOk k = false ∧ v = .tu [.ag [.c (.int .i64 (0)), .c (.int .i64 (0)), .c (.int .i64 (0)), .c (.slice none 0 0)], .c (.bool false)] ∧ h = []) ∨ (exOk k = true ∧ v = .tu [.ag [.c (.int .i64 (2)), .c (.int .i64 (2)), .c (.int .i64 (2)), .t (.rows (exRow k.toNat))], .c (.bool true)] ∧ h = [])) := by
    refine fspec tyOk mx Try.func97 rfl (by kernel_rfl) rfl ?_
    conv => whnf
    refine ACall.use (l1In_spec _ _ _) ?_
    conv => whnf
    refine ⟨fun h => ?_, fun h => ?_⟩
    · have h : exOk k = false := by simpa [exOk] using h
      conv => whnf
      exact .inl ⟨h, rfl, rfl⟩
    · have h : exOk k = true := by simpa [exOk] using h
      obtain ⟨n, rfl, hn⟩ := exOk_nat h
      conv => whnf
      refine ACall.use l6Extremes_spec ?_
      conv => whnf
      refine ⟨n, rfl, by rw [exL_len]; exact hn, ?_⟩
      conv => whnf
      refine .inr ⟨h, ?_, rfl⟩
      rw [exL_get hn]; rfl
  refine h.view (fun x hr e => ?_)
  rcases e with ⟨e1, rfl, rfl⟩ | ⟨e1, rfl, rfl⟩
  · exact ⟨[], .tu [.ag [.c (.int .i64 (0)), .c (.int .i64 (0)), .c (.int .i64 (0)), .t (.rows [])], .c (.bool false)], [], rfl, trivial, ⟨⟨rfl, rfl, rfl, rfl, trivial⟩, rfl, trivial⟩, by rw [exR, e1]; rfl, rfl⟩
  · exact ⟨[], .tu [.ag [.c (.int .i64 (2)), .c (.int .i64 (2)), .c (.int .i64 (2)), .t (.rows (exRow k.toNat))], .c (.bool true)], [], rfl, trivial, ⟨⟨rfl, rfl, rfl, rfl, trivial⟩, rfl, trivial⟩, by rw [exR, e1]; rfl, rfl⟩

theorem ExtremeBox_i (k : Int) (_hk : InR k) : FSpec Try.prog 96 [.c (.int .i64 (k))] (ex (.tu [.ag [.c (.int .i64 (if exOk k then 2 else 0)), .c (.int .i64 (if exOk k then 2 else 0)), .c (.int .i64 (if exOk k then 2 else 0)), .own 0], .c (.bool (exOk k))]) [(0, .rows 25 3 true (exR k))]) := by
  refine view_box ?_
  refine fspec tyOk mx Try.func96 rfl (by kernel_rfl) rfl ?_
  conv => whnf
  refine ACall.use (within_spec _ _ _) ?_
  refine ⟨fun h => ?_, fun h => ?_⟩
  · have h : exOk k = false := by simpa [exOk] using h
    conv => whnf
    exact .inl ⟨h, rfl, rfl⟩
  · have h : exOk k = true := by simpa [exOk] using h
    obtain ⟨n, rfl, hn⟩ := exOk_nat h
    conv => whnf
    refine ACall.use (extreme_spec n hn) ?_
    conv => whnf
    exact .inr ⟨h, rfl, rfl⟩
theorem ExtremeBox_bd (k : Int) (_hk : InR k) : (exR k).length ≤ 1000000 ∧ tot (exR k) ≤ 1000000 := by
  unfold exR
  split
  · have h1 := exRow_len k.toNat
    have h2 := tot_le_mul (m := exRow k.toNat) (n := 4) (fun q hq => by rw [exRow_rows _ q hq]; omega)
    omega
  · simp [tot]
end Go.Proofs.Ytkomndcehdneaaa
