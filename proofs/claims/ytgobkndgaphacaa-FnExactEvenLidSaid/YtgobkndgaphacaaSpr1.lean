/- Spreads: the lengths of lists; the reference. -/
import Derived.Test.YtgobkndgaphacaaSign2
namespace Go.Aw
def dotF (a b : List Int) : Nat → Int
  | 0 => 0
  | i + 1 => W (dotF a b i + W (a.getD i 0 * b.getD i 0))
def dot (a b : List Int) : Int := dotF a b a.length
end Go.Aw
namespace Go.Proofs.Ytgobkndgaphacaa
open Go.Aw
set_option maxRecDepth 100000
set_option maxHeartbeats 4000000

def sprRow (r0 r : List Int) : Bool := rowIn r (-9) 9 && decide (r.length = r0.length) && decide (dot r r = dot r0 r0)
def sprOk (m rows places : List (List Int)) : Bool :=
  decide (rows.length = m.length) && decide (places.length = (m.getD 0 []).length) && inR (rows.getD 0 []).length 1 4 && (rows ++ places).all (sprRow (rows.getD 0 []))
def sprLen (m rows places : List (List Int)) : Int := if sprOk m rows places then dot (rows.getD 0 []) (rows.getD 0 []) else 0

theorem l5Dot_spec (a b : List Int) (h : a.length ≤ b.length) (hl : a.length ≤ 9223372036854775806) : FSpec Try.prog 31 [.t (.ints .i64 a), .t (.ints .i64 b)] (ex (.c (.int .i64 (dot a b))) []) := by
  refine fspec tyOk mx Try.func31 rfl (by kernel_rfl) rfl ?_
  conv => whnf
  refine aloopI tyOk mx (fun i : Nat => (⟨25, [(0, .t (.ints .i64 a)), (1, .t (.ints .i64 b)), (5, .c (.int .i64 (dotF a b i))), (6, .c (.int .i64 (i)))], [], 0⟩ : St)) (fun i => i ≤ a.length) (fun i => a.length - i) 0 (Nat.zero_le _) none (by refine ⟨rfl, rfl, ?_, ?_⟩ <;> ((repeat' (first | exact trivial | exact rfl | refine And.intro ?_ ?_)) <;> (try ((conv => whnf); first | refine vint ?_ | refine vboo ?_ | refine rint ?_ | refine rrow ?_ | skip)) <;> (try first | omega | (simp; done) | ((repeat rw [flts_closed _ (by assumption)]); exact vws_closed _ (by assumption))))) (fun i hi => ?_)
  refine ⟨fun h1 => ?_, fun h1 => ?_⟩
  · have h1 : i < a.length := by have := ltT h1; omega
    conv => whnf
    refine ADraw.std tyOk mx ⟨by kernel_rfl, i, rfl, h1, i, rfl, by omega, ?_⟩
    conv => whnf
    rw [nat_wrap (by omega)]
    exact ⟨i + 1, none, (by refine ⟨rfl, rfl, ?_, ?_⟩ <;> ((repeat' (first | exact trivial | exact rfl | refine And.intro ?_ ?_)) <;> (try ((conv => whnf); first | refine vint ?_ | refine vboo ?_ | refine rint ?_ | refine rrow ?_ | skip)) <;> (try first | omega | (simp; done) | ((repeat rw [flts_closed _ (by assumption)]); exact vws_closed _ (by assumption))))), by omega, by omega⟩
  · have h1 : ¬ i < a.length := by have := ltF h1; omega
    obtain rfl : i = a.length := by omega
    conv => whnf
    exact ⟨rfl, rfl⟩

theorem product_spec (a b : List Int) (h : a.length ≤ b.length) (hl : a.length ≤ 9223372036854775806) : FSpec Try.prog 32 [.t (.ints .i64 a), .t (.ints .i64 b)] (ex (.c (.int .i64 (dot a b))) []) := by
  refine fspec tyOk mx Try.func32 rfl (by kernel_rfl) rfl ?_
  conv => whnf
  refine aloopI tyOk mx (fun i : Nat => (⟨25, [(1, .t (.ints .i64 b)), (5, .c (.int .i64 (dotF a b i))), (8, .t (.ints .i64 a)), (9, .c (.int .i64 (a.length))), (10, .c (.int .i64 (i)))], [], 0⟩ : St)) (fun i => i ≤ a.length) (fun i => a.length - i) 0 (Nat.zero_le _) none (by refine ⟨rfl, rfl, ?_, ?_⟩ <;> ((repeat' (first | exact trivial | exact rfl | refine And.intro ?_ ?_)) <;> (try ((conv => whnf); first | refine vint ?_ | refine vboo ?_ | refine rint ?_ | refine rrow ?_ | skip)) <;> (try first | omega | (simp; done) | ((repeat rw [flts_closed _ (by assumption)]); exact vws_closed _ (by assumption))))) (fun i hi => ?_)
  refine ⟨fun h1 => ?_, fun h1 => ?_⟩
  · have h1 : i < a.length := by have := ltT h1; omega
    conv => whnf
    refine ⟨i, rfl, h1, i, rfl, by omega, ?_⟩
    conv => whnf
    rw [nat_wrap (by omega)]
    exact ⟨i + 1, none, (by refine ⟨rfl, rfl, ?_, ?_⟩ <;> ((repeat' (first | exact trivial | exact rfl | refine And.intro ?_ ?_)) <;> (try ((conv => whnf); first | refine vint ?_ | refine vboo ?_ | refine rint ?_ | refine rrow ?_ | skip)) <;> (try first | omega | (simp; done) | ((repeat rw [flts_closed _ (by assumption)]); exact vws_closed _ (by assumption))))), by omega, by omega⟩
  · have h1 : ¬ i < a.length := by have := ltF h1; omega
    obtain rfl : i = a.length := by omega
    conv => whnf
    exact ⟨rfl, rfl⟩
end Go.Proofs.Ytgobkndgaphacaa
