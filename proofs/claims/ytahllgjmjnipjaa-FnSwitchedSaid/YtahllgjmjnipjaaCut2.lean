/- CutOf, walked, program and reference. -/
import Derived.Test.YtahllgjmjnipjaaCut
namespace Go.Proofs.Ytahllgjmjnipjaa
open Go.Aw
set_option maxRecDepth 100000

def cutOf (m : List (List Int)) : Int := if goodM m then cutBits m else 0

theorem l1Most_spec (a b : Int) : FSpec Try.prog 39 [.c (.int .i64 a), .c (.int .i64 b)] (ex (.c (.int .i64 (max a b))) []) := by
  refine fspec tyOk mx Try.func39 rfl (by kernel_rfl) rfl ?_
  conv => whnf
  refine ⟨fun h => ?_, fun h => ?_⟩
  · have h := of_decide_eq_true h
    conv => whnf
    refine ⟨?_, rfl⟩
    rw [Int.max_eq_left (by omega)]
  · have h := of_decide_eq_false h
    conv => whnf
    refine ⟨?_, rfl⟩
    rw [Int.max_eq_right (by omega)]


theorem half_pre {m : List (List Int)} (hg : goodM m = true) {x y : Nat} (hx : x < (sgR m).length) (hy : y < (sgP m).length) :
    m.length ≤ (halfL ((sgR m).getD x [])).length ∧ (∀ r, r ∈ m → r.length ≤ (halfL ((sgP m).getD y [])).length) ∧ (halfL ((sgR m).getD x [])).length ≤ 1000 ∧ (halfL ((sgP m).getD y [])).length ≤ 1000 := by
  have := sum_pre hg hx hy
  simpa only [halfL, List.length_map] using this


set_option maxHeartbeats 2000000 in
theorem CutOf_i (m : List (List Int)) (hm : OkM m) (_km : SzM m) : FSpec Try.prog 12 [.t (.rows m)] (ex (.tu [.c (.int .i64 (cutOf m)), .c (.bool (goodM m))]) []) := by
  refine fspec tyOk mx Try.func12 rfl (by kernel_rfl) rfl ?_
  conv => whnf
  refine ACall.use (iIsSignGame_spec m hm.1 hm.len) ?_
  refine ⟨fun h => ?_, fun h => ?_⟩
  · have hg : goodM m = false := by simpa using h
    conv => whnf
    refine ⟨by rw [cutOf, hg]; rfl, rfl⟩
  · have hg : goodM m = true := by simpa using h
    obtain ⟨g1, g2, g3, g4, g5⟩ := goodM_spec hg
    have lR : 2 ^ m.length ≤ 4096 := two_pow_le (by omega)
    have lP : 2 ^ (m.getD 0 []).length ≤ 4096 := two_pow_le (by omega)
    conv => whnf
    refine ⟨by omega, ?_⟩
    rw [shl_one (by omega)]
    conv => whnf
    refine aloopI tyOk mx (fun a : Nat => (⟨66, [(0, .t (.rows m)), (4, .c (.int .i64 (cutOut m (bitsI m.length) (bitsI (m.getD 0 []).length) (2 ^ (m.getD 0 []).length) a))), (17, .c (.int .i64 ((2 ^ m.length : Nat)))), (18, .c (.int .i64 (a)))], [], 0⟩ : St)) (fun a => a ≤ 2 ^ m.length) (fun a => 2 ^ m.length - a) 0 (Nat.zero_le _) none (by refine ⟨rfl, rfl, ?_, ?_⟩ <;> ((repeat' (first | exact trivial | exact rfl | refine And.intro ?_ ?_)) <;> (try ((conv => whnf); first | refine vint ?_ | refine vboo ?_ | refine rint ?_ | refine rrow ?_ | skip)) <;> (try first | omega | (simp; done) | ((repeat rw [flts_closed _ (by assumption)]); exact vws_closed _ (by assumption))))) (fun a ha => ?_)
    refine ⟨fun h => ?_, fun h => ?_⟩
    · have h := ltT h
      conv => whnf
      refine ⟨0, rfl, by omega, ?_⟩
      conv => whnf
      refine ⟨by omega, ?_⟩
      rw [shl_one (by omega)]
      conv => whnf
      refine aloopI tyOk mx (fun b : Nat => (⟨66, [(0, .t (.rows m)), (4, .c (.int .i64 (cutIn m (bitsI m.length a) (bitsI (m.getD 0 []).length) (cutOut m (bitsI m.length) (bitsI (m.getD 0 []).length) (2 ^ (m.getD 0 []).length) a) b))), (5, .c (.int .i64 (a))), (17, .c (.int .i64 ((2 ^ m.length : Nat)))), (18, .c (.int .i64 (a))), (25, .c (.int .i64 ((2 ^ (m.getD 0 []).length : Nat)))), (26, .c (.int .i64 (b)))], [], 0⟩ : St)) (fun b => b ≤ 2 ^ (m.getD 0 []).length) (fun b => 2 ^ (m.getD 0 []).length - b) 0 (Nat.zero_le _) none (by refine ⟨rfl, rfl, ?_, ?_⟩ <;> ((repeat' (first | exact trivial | exact rfl | refine And.intro ?_ ?_)) <;> (try ((conv => whnf); first | refine vint ?_ | refine vboo ?_ | refine rint ?_ | refine rrow ?_ | skip)) <;> (try first | omega | (simp; done) | ((repeat rw [flts_closed _ (by assumption)]); exact vws_closed _ (by assumption))))) (fun b hb => ?_)
      generalize hacc : cutIn m (bitsI m.length a) (bitsI (m.getD 0 []).length) (cutOut m (bitsI m.length) (bitsI (m.getD 0 []).length) (2 ^ (m.getD 0 []).length) a) b = acc
      refine ⟨fun h5 => ?_, fun h5 => ?_⟩
      · have h5 := ltT h5
        conv => whnf
        refine aloopI tyOk mx (fun x : Nat => (⟨66, [(0, .t (.rows m)), (4, .c (.int .i64 (acc))), (5, .c (.int .i64 (a))), (6, .c (.int .i64 (b))), (7, .c (.int .i64 (sumTo m (bitsI m.length a) (bitsI (m.getD 0 []).length b) x))), (17, .c (.int .i64 ((2 ^ m.length : Nat)))), (18, .c (.int .i64 (a))), (25, .c (.int .i64 ((2 ^ (m.getD 0 []).length : Nat)))), (26, .c (.int .i64 (b))), (29, .t (.rows m)), (30, .c (.int .i64 (m.length))), (31, .c (.int .i64 (x)))], [], 0⟩ : St)) (fun x => x ≤ m.length) (fun x => m.length - x) 0 (Nat.zero_le _) none (by refine ⟨rfl, rfl, ?_, ?_⟩ <;> ((repeat' (first | exact trivial | exact rfl | refine And.intro ?_ ?_)) <;> (try ((conv => whnf); first | refine vint ?_ | refine vboo ?_ | refine rint ?_ | refine rrow ?_ | skip)) <;> (try first | omega | (simp; done) | ((repeat rw [flts_closed _ (by assumption)]); exact vws_closed _ (by assumption))))) (fun x hx => ?_)
        refine ⟨fun h6 => ?_, fun h6 => ?_⟩
        · have h6 := ltT h6
          have hrow := (g5 _ (getD_mem (d := []) h6)).1
          conv => whnf
          refine ⟨x, rfl, h6, ?_⟩
          conv => whnf
          refine aloopI tyOk mx (fun y : Nat => (⟨66, [(0, .t (.rows m)), (4, .c (.int .i64 (acc))), (5, .c (.int .i64 (a))), (6, .c (.int .i64 (b))), (7, .c (.int .i64 (sumRow (m.getD x []) (bitsI (m.getD 0 []).length b) ((bitsI m.length a).getD x 0) (sumTo m (bitsI m.length a) (bitsI (m.getD 0 []).length b) x) y))), (8, .c (.int .i64 (x))), (17, .c (.int .i64 ((2 ^ m.length : Nat)))), (18, .c (.int .i64 (a))), (25, .c (.int .i64 ((2 ^ (m.getD 0 []).length : Nat)))), (26, .c (.int .i64 (b))), (29, .t (.rows m)), (30, .c (.int .i64 (m.length))), (31, .c (.int .i64 (x))), (36, .t (.ints .i64 (m.getD x []))), (37, .c (.int .i64 ((m.getD x []).length))), (38, .c (.int .i64 (y)))], [], 0⟩ : St)) (fun y => y ≤ (m.getD x []).length) (fun y => (m.getD x []).length - y) 0 (Nat.zero_le _) none (by refine ⟨rfl, rfl, ?_, ?_⟩ <;> ((repeat' (first | exact trivial | exact rfl | refine And.intro ?_ ?_)) <;> (try ((conv => whnf); first | refine vint ?_ | refine vboo ?_ | refine rint ?_ | refine rrow ?_ | skip)) <;> (try first | omega | (simp; done) | ((repeat rw [flts_closed _ (by assumption)]); exact vws_closed _ (by assumption))))) (fun y hy => ?_)
          refine ⟨fun h7 => ?_, fun h7 => ?_⟩
          · have h7 := ltT h7
            conv => whnf
            refine ⟨y, rfl, h7, ?_⟩
            conv => whnf
            refine ADraw.std tyOk mx ⟨by kernel_rfl, by omega, by omega, ?_⟩
            conv => whnf
            rw [nat_wrap (by omega)]
            refine ⟨y + 1, none, ?_, by omega, by omega⟩
            (refine ⟨rfl, rfl, ?_, ?_⟩ <;> ((repeat' (first | exact trivial | exact rfl | refine And.intro ?_ ?_)) <;> (try ((conv => whnf); first | refine vint ?_ | refine vboo ?_ | refine rint ?_ | refine rrow ?_ | skip)) <;> (try first | omega | (simp; done) | ((repeat rw [flts_closed _ (by assumption)]); exact vws_closed _ (by assumption)))))
            rw [sumRow_succ, bitsI_get (n := m.length) h6, bitsI_get (n := (m.getD 0 []).length) (by omega)]
            rfl
          · have h7 := ltF h7
            obtain rfl : y = (m.getD x []).length := by omega
            conv => whnf
            rw [nat_wrap (by omega)]
            exact ⟨x + 1, none, (by refine ⟨rfl, rfl, ?_, ?_⟩ <;> ((repeat' (first | exact trivial | exact rfl | refine And.intro ?_ ?_)) <;> (try ((conv => whnf); first | refine vint ?_ | refine vboo ?_ | refine rint ?_ | refine rrow ?_ | skip)) <;> (try first | omega | (simp; done) | ((repeat rw [flts_closed _ (by assumption)]); exact vws_closed _ (by assumption))))), by omega, by omega⟩
        · have h6 := ltF h6
          obtain rfl : x = m.length := by omega
          conv => whnf
          rw [nat_wrap (by omega)]
          refine ⟨b + 1, none, ?_, by omega, by omega⟩
          (refine ⟨rfl, rfl, ?_, ?_⟩ <;> ((repeat' (first | exact trivial | exact rfl | refine And.intro ?_ ?_)) <;> (try ((conv => whnf); first | refine vint ?_ | refine vboo ?_ | refine rint ?_ | refine rrow ?_ | skip)) <;> (try first | omega | (simp; done) | ((repeat rw [flts_closed _ (by assumption)]); exact vws_closed _ (by assumption)))))
          rw [cutIn_succ, hacc]
          exact max3' _ _ _
      · have h5 := ltF h5
        obtain rfl : b = 2 ^ (m.getD 0 []).length := by omega
        subst hacc
        conv => whnf
        rw [nat_wrap (by omega)]
        exact ⟨a + 1, none, (by refine ⟨rfl, rfl, ?_, ?_⟩ <;> ((repeat' (first | exact trivial | exact rfl | refine And.intro ?_ ?_)) <;> (try ((conv => whnf); first | refine vint ?_ | refine vboo ?_ | refine rint ?_ | refine rrow ?_ | skip)) <;> (try first | omega | (simp; done) | ((repeat rw [flts_closed _ (by assumption)]); exact vws_closed _ (by assumption))))), by omega, by omega⟩
    · have h := ltF h
      obtain rfl : a = 2 ^ m.length := by omega
      conv => whnf
      exact ⟨by rw [cutOf, hg, if_pos rfl, cutBits], rfl⟩
end Go.Proofs.Ytahllgjmjnipjaa
