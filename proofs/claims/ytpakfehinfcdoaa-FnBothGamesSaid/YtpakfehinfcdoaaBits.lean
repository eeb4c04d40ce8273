/- Lists of bits, of the reference. -/
import Derived.Test.YtpakfehinfcdoaaPlain
namespace Go.Proofs.Ytpakfehinfcdoaa
open Go.Aw
set_option maxRecDepth 100000
theorem l2Bits_spec (l : List Int) (n : Int) (hl : l.length ≤ 9223372036854775806) :
    FSpec Try.prog 51 [.t (.ints .i64 l), .c (.int .i64 n)] (ex (.c (.bool (rowIn l 0 1 && decide ((l.length : Int) = n)))) []) := by
  refine fspec tyOk mx Try.func51 rfl (by kernel_rfl) rfl ?_
  conv => whnf
  refine aloopI tyOk mx (fun k : Nat => (⟨22, [(0, .t (.ints .i64 l)), (1, .c (.int .i64 n)), (5, .c (.int .i64 (k)))], [], 0⟩ : St)) (fun k => k ≤ l.length ∧ (l.take k).all (fun x => inR x 0 1) = true) (fun k => l.length - k) 0 ⟨by omega, rfl⟩ none (by refine ⟨rfl, rfl, ?_, ?_⟩ <;> ((repeat' (first | exact trivial | exact rfl | refine And.intro ?_ ?_)) <;> (try ((conv => whnf); first | refine vint ?_ | refine vboo ?_ | refine rint ?_ | refine rrow ?_ | skip)) <;> (try first | omega | (simp; done) | ((repeat rw [flts_closed _ (by assumption)]); exact vws_closed _ (by assumption))))) (fun k hI => ?_)
  obtain ⟨hk, hp⟩ := hI
  refine ⟨fun h => ?_, fun h => ?_⟩
  · have h := ltT h
    conv => whnf
    refine ⟨k, rfl, h, ?_⟩
    conv => whnf
    refine ACall.use (l1In_spec _ _ _) ?_
    refine ⟨fun h2 => ?_, fun h2 => ?_⟩
    · conv => whnf
      refine ⟨?_, rfl⟩
      rw [rowIn, all_false (d := 0) h (by simpa using h2)]
      rfl
    · conv => whnf
      rw [nat_wrap (by omega)]
      exact ⟨k + 1, none, (by refine ⟨rfl, rfl, ?_, ?_⟩ <;> ((repeat' (first | exact trivial | exact rfl | refine And.intro ?_ ?_)) <;> (try ((conv => whnf); first | refine vint ?_ | refine vboo ?_ | refine rint ?_ | refine rrow ?_ | skip)) <;> (try first | omega | (simp; done) | ((repeat rw [flts_closed _ (by assumption)]); exact vws_closed _ (by assumption))))), ⟨by omega, all_take_succ (d := 0) h hp (by simpa using h2)⟩, by omega⟩
  · have h := ltF h
    conv => whnf
    refine ⟨?_, rfl⟩
    rw [rowIn, all_end h hp, Bool.true_and]
    rfl
end Go.Proofs.Ytpakfehinfcdoaa
