/- Which boxes are valid: reference and program. -/
import Derived.Test.YtgefdbihdliolaaSizes
namespace Go.Proofs.Ytgefdbihdliolaa
open Go.Aw
set_option maxRecDepth 100000
set_option maxHeartbeats 4000000

def rowOk (z : Int) (r : List Int) : Bool := decide (r.length = 4) && rowIn r 0 z && decide (sumF r r.length = z)
def goodB (x y z : Int) (m : List (List Int)) : Bool := szOk x y && inR z 1 1000 && decide ((m.length : Int) = x * y) && m.all (rowOk z)

theorem goodB_spec {x y z : Int} {m : List (List Int)} (h : goodB x y z m = true) : ∃ a b : Nat, x = a ∧ y = b ∧ 1 ≤ a ∧ a ≤ 3 ∧ 1 ≤ b ∧ b ≤ 3 ∧ 1 ≤ z ∧ z ≤ 1000 ∧ m.length = a * b ∧ a * b ≤ 9 ∧
    (∀ r, r ∈ m → r.length = 4 ∧ (∀ v, v ∈ r → 0 ≤ v ∧ v ≤ z) ∧ sumF r r.length = z) := by
  simp only [goodB, Bool.and_eq_true, decide_eq_true_eq, List.all_eq_true, rowOk, rowIn_iff, inR_iff] at h
  obtain ⟨⟨⟨h1, h2⟩, h3⟩, h4⟩ := h
  obtain ⟨a, b, rfl, rfl, g1, g2, g3, g4, g5, g6⟩ := szOk_nat h1
  rw [g5] at h3
  exact ⟨a, b, rfl, rfl, g1, g2, g3, g4, h2.1, h2.2, by omega, g6, fun r hr => by obtain ⟨⟨q1, q2⟩, q3⟩ := h4 r hr; exact ⟨q1, q2, q3⟩⟩

theorem l2Four_spec (r : List Int) (z : Int) (_hl : r.length ≤ 1048576) : FSpec Try.prog 139 [.t (.ints .i64 r), .c (.int .i64 (z))] (ex (.c (.bool (rowOk z r))) []) := by
  refine fspec tyOk mx Try.func139 rfl (by kernel_rfl) rfl ?_
  conv => whnf
  refine aloopI tyOk mx (fun k : Nat => (⟨38, [(0, .t (.ints .i64 r)), (1, .c (.int .i64 (z))), (5, .c (.int .i64 (sumF r k))), (6, .c (.int .i64 (k)))], [], 0⟩ : St)) (fun k => k ≤ r.length ∧ k ≤ 5 ∧ (r.take k).all (fun v => inR v 0 z) = true) (fun k => 5 - k) 0 ⟨Nat.zero_le _, by omega, rfl⟩ none (by refine ⟨rfl, rfl, ?_, ?_⟩ <;> ((repeat' (first | exact trivial | exact rfl | refine And.intro ?_ ?_)) <;> (try ((conv => whnf); first | refine vint ?_ | refine vboo ?_ | refine rint ?_ | refine rrow ?_ | skip)) <;> (try first | omega | (simp; done) | ((repeat rw [flts_closed _ (by assumption)]); exact vws_closed _ (by assumption))))) (fun k hI => ?_)
  obtain ⟨hk, hk5, hp⟩ := hI
  have hend : (k = r.length ∨ k = 5) → (rowOk z r = (decide ((r.length : Int) = 4) && decide (sumF r k = z))) := fun hor => by
    by_cases h4 : r.length = 4
    · obtain rfl : k = r.length := by omega
      have := all_end (k := r.length) (by omega) hp
      rw [rowOk, rowIn, this, decide_eq_true h4, decide_eq_true (show (r.length : Int) = 4 by omega)]; rfl
    · rw [rowOk, decide_eq_false h4, decide_eq_false (show ¬ (r.length : Int) = 4 by omega)]; rfl
  have fin : ∀ b : Bool, (k = r.length ∨ k = 5) → rowOk z r = b → (AVal.c (.bool b) = AVal.c (.bool (rowOk z r))) := fun b _ hb => by rw [hb]
  refine ⟨fun h => ?_, fun h => ?_⟩
  · have h := ltT h
    conv => whnf
    refine ⟨fun h2 => ?_, fun h2 => ?_⟩
    · have h2 : k < 5 := by have := of_decide_eq_true h2; omega
      conv => whnf
      refine ⟨k, rfl, h, ?_⟩
      conv => whnf
      refine ACall.use (l1In_spec _ _ _) ?_
      conv => whnf
      refine ⟨fun h3 => ?_, fun h3 => ?_⟩
      · have h3 : inR (r.getD k 0) 0 z = false := by simpa using h3
        conv => whnf
        refine ⟨?_, rfl⟩
        rw [rowOk, rowIn, all_false (d := 0) h h3]; simp
      · have h3 : inR (r.getD k 0) 0 z = true := by simpa using h3
        conv => whnf
        refine ⟨k, rfl, h, ?_⟩
        conv => whnf
        rw [nat_wrap (by omega)]
        exact ⟨k + 1, none, (by refine ⟨rfl, rfl, ?_, ?_⟩ <;> ((repeat' (first | exact trivial | exact rfl | refine And.intro ?_ ?_)) <;> (try ((conv => whnf); first | refine vint ?_ | refine vboo ?_ | refine rint ?_ | refine rrow ?_ | skip)) <;> (try first | omega | (simp; done) | ((repeat rw [flts_closed _ (by assumption)]); exact vws_closed _ (by assumption))))), ⟨by omega, by omega, all_take_succ (d := 0) h hp h3⟩, by omega⟩
    · have h2 : ¬ k < 5 := by have := of_decide_eq_false h2; omega
      conv => whnf
      refine ⟨fun h4 => ?_, fun h4 => ?_⟩
      · have h4 : (r.length : Int) = 4 := by simpa using h4
        omega
      · have h4 : ¬ (r.length : Int) = 4 := by simpa using h4
        conv => whnf
        refine ⟨?_, rfl⟩
        rw [hend (by omega), decide_eq_false h4]; rfl
  · have h := ltF h
    (repeat (conv => whnf); (first | refine ⟨fun h => absurd h (by decide), fun _ => ?_⟩ | refine ⟨fun _ => ?_, fun h => absurd h (by decide)⟩)); conv => whnf
    refine ⟨fun h4 => ?_, fun h4 => ?_⟩
    · have h4 : (r.length : Int) = 4 := by simpa using h4
      conv => whnf
      refine ⟨?_, rfl⟩
      rw [hend (by omega), decide_eq_true h4]; rfl
    · have h4 : ¬ (r.length : Int) = 4 := by simpa using h4
      conv => whnf
      refine ⟨?_, rfl⟩
      rw [hend (by omega), decide_eq_false h4]; rfl

theorem l2Box_spec (x y z : Int) (m : List (List Int)) (km : SzM m) :
    FSpec Try.prog 119 [.ag [.c (.int .i64 (x)), .c (.int .i64 (y)), .c (.int .i64 (z)), .t (.rows m)]] (ex (.c (.bool (goodB x y z m))) []) := by
  obtain ⟨i, j, tz⟩ := km.all
  refine fspec tyOk mx Try.func119 rfl (by kernel_rfl) rfl ?_
  conv => whnf
  refine ACall.use (l2Sizes_spec _ _) ?_
  conv => whnf
  refine ⟨fun h1 => ?_, fun h1 => ?_⟩
  · have h1 : szOk x y = true := by simpa using h1
    conv => whnf
    refine ACall.use (l1In_spec _ _ _) ?_
    conv => whnf
    refine ⟨fun h2 => ?_, fun h2 => ?_⟩
    · have h2 : inR z 1 1000 = true := by simpa using h2
      conv => whnf
      rw [szOk_mul h1]
      refine ⟨fun h3 => ?_, fun h3 => ?_⟩
      · have h3 : ¬ (m.length : Int) = x * y := by simpa using h3
        conv => whnf
        exact ⟨by rw [goodB, decide_eq_false h3]; simp, rfl⟩
      · have h3 : (m.length : Int) = x * y := by simpa using h3
        conv => whnf
        refine aloopI tyOk mx (fun k : Nat => (⟨43, [(1, .ptr 0 0), (3, .c (.int .i64 (k)))], [(0, .cells 42 [.c (.int .i64 (x)), .c (.int .i64 (y)), .c (.int .i64 (z)), .t (.rows m)])], 1⟩ : St)) (fun k => k ≤ m.length ∧ (m.take k).all (rowOk z) = true) (fun k => m.length - k) 0 ⟨Nat.zero_le _, rfl⟩ none (by refine ⟨rfl, rfl, ?_, ?_⟩ <;> ((repeat' (first | exact trivial | exact rfl | refine And.intro ?_ ?_)) <;> (try ((conv => whnf); first | refine vint ?_ | refine vboo ?_ | refine rint ?_ | refine rrow ?_ | skip)) <;> (try first | omega | (simp; done) | ((repeat rw [flts_closed _ (by assumption)]); exact vws_closed _ (by assumption))))) (fun k hI => ?_)
        obtain ⟨hk, hp⟩ := hI
        refine ⟨fun h => ?_, fun h => ?_⟩
        · have h := ltT h
          refine ADraw.std tyOk mx ⟨by kernel_rfl, k, rfl, h, ?_⟩
          conv => whnf
          refine QCall.use (l2Four_spec (m.getD k []) z (by have := j _ (getD_mem (d := []) h); omega)) ?_
          conv => whnf
          refine ⟨fun h4 => ?_, fun h4 => ?_⟩
          · conv => whnf
            exact ⟨by rw [goodB, all_false (d := []) h (by simpa using h4), Bool.and_false], rfl⟩
          · conv => whnf
            rw [nat_wrap (by omega)]
            exact ⟨k + 1, none, (by refine ⟨rfl, rfl, ?_, ?_⟩ <;> ((repeat' (first | exact trivial | exact rfl | refine And.intro ?_ ?_)) <;> (try ((conv => whnf); first | refine vint ?_ | refine vboo ?_ | refine rint ?_ | refine rrow ?_ | skip)) <;> (try first | omega | (simp; done) | ((repeat rw [flts_closed _ (by assumption)]); exact vws_closed _ (by assumption))))), ⟨by omega, all_take_succ (d := []) h hp (by simpa using h4)⟩, by omega⟩
        · have h := ltF h
          have hm2 := all_end h hp
          conv => whnf
          refine ⟨?_, rfl⟩
          rw [goodB, h1, h2, decide_eq_true h3, hm2]; rfl
    · have h2 : inR z 1 1000 = false := by simpa using h2
      (repeat (conv => whnf); (first | refine ⟨fun h => absurd h (by decide), fun _ => ?_⟩ | refine ⟨fun _ => ?_, fun h => absurd h (by decide)⟩)); conv => whnf
      exact ⟨by rw [goodB, h2]; simp, rfl⟩
  · have h1 : szOk x y = false := by simpa using h1
    (repeat (conv => whnf); (first | refine ⟨fun h => absurd h (by decide), fun _ => ?_⟩ | refine ⟨fun _ => ?_, fun h => absurd h (by decide)⟩)); conv => whnf
    exact ⟨by rw [goodB, h1]; simp, rfl⟩

theorem IsBox_spec (x y z : Int) (m : List (List Int)) (km : SzM m) :
    FSpec Try.prog 84 [.ag [.c (.int .i64 (x)), .c (.int .i64 (y)), .c (.int .i64 (z)), .t (.rows m)]] (ex (.c (.bool (goodB x y z m))) []) := by
  obtain ⟨i, j, tz⟩ := km.all
  refine fspec tyOk mx Try.func84 rfl (by kernel_rfl) rfl ?_
  conv => whnf
  refine ACall.use (areQuestions_spec _ _) ?_
  conv => whnf
  refine ⟨fun h1 => ?_, fun h1 => ?_⟩
  · have h1 : szOk x y = true := by simpa using h1
    conv => whnf
    refine ACall.use (within_spec _ _ _) ?_
    conv => whnf
    refine ⟨fun h2 => ?_, fun h2 => ?_⟩
    · have h2 : inR z 1 1000 = true := by simpa using h2
      conv => whnf
      rw [szOk_mul h1]
      refine ⟨fun h3 => ?_, fun h3 => ?_⟩
      · have h3 : ¬ (m.length : Int) = x * y := by simpa using h3
        conv => whnf
        exact ⟨by rw [goodB, decide_eq_false h3]; simp, rfl⟩
      · have h3 : (m.length : Int) = x * y := by simpa using h3
        conv => whnf
        refine aloopI tyOk mx (fun k : Nat => (⟨53, [(1, .ptr 0 0), (29, .t (.rows m)), (30, .c (.int .i64 (m.length))), (31, .c (.int .i64 (k)))], [(0, .cells 42 [.c (.int .i64 (x)), .c (.int .i64 (y)), .c (.int .i64 (z)), .t (.rows m)])], 1⟩ : St)) (fun k => k ≤ m.length ∧ (m.take k).all (rowOk z) = true) (fun k => m.length - k) 0 ⟨Nat.zero_le _, rfl⟩ none (by refine ⟨rfl, rfl, ?_, ?_⟩ <;> ((repeat' (first | exact trivial | exact rfl | refine And.intro ?_ ?_)) <;> (try ((conv => whnf); first | refine vint ?_ | refine vboo ?_ | refine rint ?_ | refine rrow ?_ | skip)) <;> (try first | omega | (simp; done) | ((repeat rw [flts_closed _ (by assumption)]); exact vws_closed _ (by assumption))))) (fun k hI => ?_)
        obtain ⟨hk, hp⟩ := hI
        refine ⟨fun h => ?_, fun h => ?_⟩
        · have h := ltT h
          have hj := j _ (getD_mem (d := []) h)
          conv => whnf
          refine ⟨k, rfl, h, ?_⟩
          conv => whnf
          refine ADraw.std tyOk mx ⟨by kernel_rfl, ?_⟩
          conv => whnf
          refine ⟨fun h4 => ?_, fun h4 => ?_⟩
          · have h4 : (m.getD k []).length = 4 := by rw [bne_eq_false_iff_eq] at h4; omega
            conv => whnf
            refine QCall.use (allWithin_spec (m.getD k []) _ _ (by omega)) ?_
            conv => whnf
            refine ⟨fun h5 => ?_, fun h5 => ?_⟩
            · have h5 : rowIn (m.getD k []) 0 z = true := by simpa using h5
              conv => whnf
              refine QCall.use (total_spec (m.getD k []) hj) ?_
              conv => whnf
              refine ⟨fun h6 => ?_, fun h6 => ?_⟩
              · have h6 : ¬ sumF (m.getD k []) (m.getD k []).length = z := by simpa using h6
                conv => whnf
                exact ⟨by rw [goodB, all_false (d := []) h (by rw [rowOk, decide_eq_false h6, Bool.and_false]), Bool.and_false], rfl⟩
              · have h6 : sumF (m.getD k []) (m.getD k []).length = z := by simpa using h6
                conv => whnf
                rw [nat_wrap (by omega)]
                exact ⟨k + 1, none, (by refine ⟨rfl, rfl, ?_, ?_⟩ <;> ((repeat' (first | exact trivial | exact rfl | refine And.intro ?_ ?_)) <;> (try ((conv => whnf); first | refine vint ?_ | refine vboo ?_ | refine rint ?_ | refine rrow ?_ | skip)) <;> (try first | omega | (simp; done) | ((repeat rw [flts_closed _ (by assumption)]); exact vws_closed _ (by assumption))))), ⟨by omega, all_take_succ (d := []) h hp (by rw [rowOk, h5, decide_eq_true h4, decide_eq_true h6]; rfl)⟩, by omega⟩
            · have h5 : rowIn (m.getD k []) 0 z = false := by simpa using h5
              (repeat (conv => whnf); (first | refine ⟨fun h => absurd h (by decide), fun _ => ?_⟩ | refine ⟨fun _ => ?_, fun h => absurd h (by decide)⟩)); conv => whnf
              exact ⟨by rw [goodB, all_false (d := []) h (by rw [rowOk, h5]; simp), Bool.and_false], rfl⟩
          · have h4 : ¬ (m.getD k []).length = 4 := by rw [bne_iff_ne] at h4; omega
            (repeat (conv => whnf); (first | refine ⟨fun h => absurd h (by decide), fun _ => ?_⟩ | refine ⟨fun _ => ?_, fun h => absurd h (by decide)⟩)); conv => whnf
            exact ⟨by rw [goodB, all_false (d := []) h (by rw [rowOk, decide_eq_false h4]; simp), Bool.and_false], rfl⟩
        · have h := ltF h
          have hm2 := all_end h hp
          conv => whnf
          refine ⟨?_, rfl⟩
          rw [goodB, h1, h2, decide_eq_true h3, hm2]; rfl
    · have h2 : inR z 1 1000 = false := by simpa using h2
      (repeat (conv => whnf); (first | refine ⟨fun h => absurd h (by decide), fun _ => ?_⟩ | refine ⟨fun _ => ?_, fun h => absurd h (by decide)⟩)); conv => whnf
      exact ⟨by rw [goodB, h2]; simp, rfl⟩
  · have h1 : szOk x y = false := by simpa using h1
    (repeat (conv => whnf); (first | refine ⟨fun h => absurd h (by decide), fun _ => ?_⟩ | refine ⟨fun _ => ?_, fun h => absurd h (by decide)⟩)); conv => whnf
    exact ⟨by rw [goodB, h1]; simp, rfl⟩
end Go.Proofs.Ytgefdbihdliolaa
