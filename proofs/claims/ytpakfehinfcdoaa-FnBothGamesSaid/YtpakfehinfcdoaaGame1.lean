/- Which games are valid: reference and program. -/
import Derived.Test.YtpakfehinfcdoaaSizes
import Derived.Test.YtpakfehinfcdoaaStGame
namespace Go.Proofs.Ytpakfehinfcdoaa
open Go.Aw
set_option maxRecDepth 100000
set_option maxHeartbeats 4000000

def winOk (r : List Int) : Bool := decide (r.length = 4) && rowIn r 0 1
def goodG (x y : Int) (s : List Int) (m : List (List Int)) : Bool :=
  szOk x y && decide ((s.length : Int) = x * y) && decide ((m.length : Int) = x * y) && rowIn s 0 99 && decide (0 < sumF s s.length) && m.all winOk

theorem goodG_spec {x y : Int} {s : List Int} {m : List (List Int)} (h : goodG x y s m = true) : ∃ a b : Nat, x = a ∧ y = b ∧ 1 ≤ a ∧ a ≤ 3 ∧ 1 ≤ b ∧ b ≤ 3 ∧ s.length = a * b ∧ m.length = a * b ∧ a * b ≤ 9 ∧
    (∀ v, v ∈ s → 0 ≤ v ∧ v ≤ 99) ∧ 0 < sumF s s.length ∧ (∀ r, r ∈ m → r.length = 4 ∧ ∀ v, v ∈ r → 0 ≤ v ∧ v ≤ 1) := by
  simp only [goodG, Bool.and_eq_true, decide_eq_true_eq, List.all_eq_true, winOk, rowIn_iff] at h
  obtain ⟨⟨⟨⟨⟨h1, h2⟩, h3⟩, h4⟩, h5⟩, h6⟩ := h
  obtain ⟨a, b, rfl, rfl, g1, g2, g3, g4, g5, g6⟩ := szOk_nat h1
  rw [g5] at h2 h3
  exact ⟨a, b, rfl, rfl, g1, g2, g3, g4, by omega, by omega, g6, h4, h5, h6⟩

theorem l4Game_spec (x y : Int) (s : List Int) (m : List (List Int)) (ks : SzI s) (km : SzM m) :
    FSpec Try.prog 25 [.ag [.c (.int .i64 x), .c (.int .i64 y), .t (.ints .i64 s), .t (.rows m)]] (ex (.c (.bool (goodG x y s m))) []) := by
  obtain ⟨i, j, z⟩ := km.all
  have ks' : s.length ≤ 1048576 := ks
  refine fspec tyOk mx Try.func25 rfl (by kernel_rfl) rfl ?_
  conv => whnf
  refine ACall.use (l2Sizes_spec _ _) ?_
  conv => whnf
  refine ⟨fun h1 => ?_, fun h1 => ?_⟩
  · have h1 : szOk x y = true := by simpa using h1
    conv => whnf
    refine ⟨fun h2 => ?_, fun h2 => ?_⟩
    · rw [szOk_mul h1] at h2
      have h2 : (s.length : Int) = x * y := by simpa using h2
      conv => whnf
      refine ⟨fun h3 => ?_, fun h3 => ?_⟩
      · rw [szOk_mul h1] at h3
        have h3 : ¬ (m.length : Int) = x * y := by simpa using h3
        conv => whnf
        exact ⟨by rw [goodG, decide_eq_false h3]; simp, rfl⟩
      · rw [szOk_mul h1] at h3
        have h3 : (m.length : Int) = x * y := by simpa using h3
        have hsm : m.length = s.length := by omega
        have hsl : s.length ≤ 9 := by obtain ⟨a, b, _, _, _, _, _, _, h5, h6⟩ := szOk_nat h1; omega
        conv => whnf
        refine aloopI tyOk mx (fun k : Nat => (⟨65, [(1, .ptr 0 0), (3, .c (.int .i64 (sumF s k))), (4, .c (.int .i64 (k)))], [(0, .cells 27 [.c (.int .i64 (x)), .c (.int .i64 (y)), .t (.ints .i64 s), .t (.rows m)])], 1⟩ : St)) (fun k => k ≤ s.length ∧ (s.take k).all (fun x => inR x 0 99) = true ∧ (m.take k).all winOk = true) (fun k => s.length - k) 0 ⟨Nat.zero_le _, rfl, rfl⟩ none (by refine ⟨rfl, rfl, ?_, ?_⟩ <;> ((repeat' (first | exact trivial | exact rfl | refine And.intro ?_ ?_)) <;> (try ((conv => whnf); first | refine vint ?_ | refine vboo ?_ | refine rint ?_ | refine rrow ?_ | skip)) <;> (try first | omega | (simp; done) | ((repeat rw [flts_closed _ (by assumption)]); exact vws_closed _ (by assumption))))) (fun k hI => ?_)
        obtain ⟨hk, hp, hq⟩ := hI
        refine ⟨fun h => ?_, fun h => ?_⟩
        · have h := ltT h
          have hm' : k < m.length := by omega
          conv => whnf
          refine ⟨k, rfl, h, ?_⟩
          conv => whnf
          refine ACall.use (l1In_spec _ _ _) ?_
          conv => whnf
          refine ⟨fun h4 => ?_, fun h4 => ?_⟩
          · have h4 : inR (s.getD k 0) 0 99 = true := by simpa using h4
            conv => whnf
            refine ⟨k, rfl, hm', ?_⟩
            conv => whnf
            refine ACall.use (l2Bits_spec (m.getD k []) 4 (by have := j _ (getD_mem (d := []) hm'); omega)) ?_
            conv => whnf
            have e4 : (rowIn (m.getD k []) 0 1 && decide (((m.getD k []).length : Int) = 4)) = winOk (m.getD k []) := by
              rw [winOk, Bool.and_comm]; congr 1; exact decide_eq_decide.2 (by omega)
            refine ⟨fun h5 => ?_, fun h5 => ?_⟩
            · rw [e4] at h5
              conv => whnf
              exact ⟨by rw [goodG, all_false (d := []) hm' (by simpa using h5), Bool.and_false], rfl⟩
            · rw [e4] at h5
              conv => whnf
              refine ⟨k, rfl, h, ?_⟩
              conv => whnf
              rw [nat_wrap (by omega)]
              exact ⟨k + 1, none, (by refine ⟨rfl, rfl, ?_, ?_⟩ <;> ((repeat' (first | exact trivial | exact rfl | refine And.intro ?_ ?_)) <;> (try ((conv => whnf); first | refine vint ?_ | refine vboo ?_ | refine rint ?_ | refine rrow ?_ | skip)) <;> (try first | omega | (simp; done) | ((repeat rw [flts_closed _ (by assumption)]); exact vws_closed _ (by assumption))))), ⟨by omega, all_take_succ (d := 0) h hp h4, all_take_succ (d := []) hm' hq (by simpa using h5)⟩, by omega⟩
          · have h4 : inR (s.getD k 0) 0 99 = false := by simpa using h4
            (repeat (conv => whnf); (first | refine ⟨fun h => absurd h (by decide), fun _ => ?_⟩ | refine ⟨fun _ => ?_, fun h => absurd h (by decide)⟩)); conv => whnf
            exact ⟨by rw [goodG, rowIn, all_false (d := 0) h h4]; simp, rfl⟩
        · have h := ltF h
          have hs := all_end h hp
          have hm2 := all_end (by omega) hq
          obtain rfl : k = s.length := by omega
          conv => whnf
          refine ⟨?_, rfl⟩
          rw [goodG, h1, decide_eq_true h2, decide_eq_true h3, hm2, rowIn, hs]
          simp
    · rw [szOk_mul h1] at h2
      have h2 : ¬ (s.length : Int) = x * y := by simpa using h2
      (repeat (conv => whnf); (first | refine ⟨fun h => absurd h (by decide), fun _ => ?_⟩ | refine ⟨fun _ => ?_, fun h => absurd h (by decide)⟩)); conv => whnf
      exact ⟨by rw [goodG, decide_eq_false h2]; simp, rfl⟩
  · have h1 : szOk x y = false := by simpa using h1
    (repeat (conv => whnf); (first | refine ⟨fun h => absurd h (by decide), fun _ => ?_⟩ | refine ⟨fun _ => ?_, fun h => absurd h (by decide)⟩)); conv => whnf
    exact ⟨by rw [goodG, h1]; simp, rfl⟩

theorem iIsGame_spec (x y : Int) (s : List Int) (m : List (List Int)) (ks : SzI s) (km : SzM m) :
    FSpec Try.prog 24 [.ag [.c (.int .i64 x), .c (.int .i64 y), .t (.ints .i64 s), .t (.rows m)]] (ex (.c (.bool (goodG x y s m))) []) := by
  obtain ⟨i, j, z⟩ := km.all
  have ks' : s.length ≤ 1048576 := ks
  refine fspec tyOk mx Try.func24 rfl (by kernel_rfl) rfl ?_
  conv => whnf
  refine ACall.use (areQuestions_spec _ _) ?_
  conv => whnf
  refine ⟨fun h1 => ?_, fun h1 => ?_⟩
  · have h1 : szOk x y = true := by simpa using h1
    conv => whnf
    refine ⟨fun h2 => ?_, fun h2 => ?_⟩
    · rw [szOk_mul h1] at h2
      have h2 : (s.length : Int) = x * y := by simpa using h2
      have hsl : s.length ≤ 9 := by obtain ⟨a, b, _, _, _, _, _, _, h5, h6⟩ := szOk_nat h1; omega
      conv => whnf
      refine ACall.use (allWithin_spec s _ _ (by omega)) ?_
      conv => whnf
      refine ⟨fun h4 => ?_, fun h4 => ?_⟩
      · have h4 : rowIn s 0 99 = true := by simpa using h4
        have hbd := sumF_bd (rowIn_iff.1 h4) (by omega) s.length (Nat.le_refl _)
        conv => whnf
        refine ACall.use (total_spec s ks') ?_
        conv => whnf
        refine ⟨fun h5 => ?_, fun h5 => ?_⟩
        · have h5 : 0 < sumF s s.length := by simp at h5; omega
          conv => whnf
          refine ⟨fun h3 => ?_, fun h3 => ?_⟩
          · rw [szOk_mul h1] at h3
            have h3 : ¬ (m.length : Int) = x * y := by simpa using h3
            conv => whnf
            exact ⟨by rw [goodG, decide_eq_false h3]; simp, rfl⟩
          · rw [szOk_mul h1] at h3
            have h3 : (m.length : Int) = x * y := by simpa using h3
            conv => whnf
            refine aloopI tyOk mx (fun k : Nat => (⟨59, [(1, .ptr 0 0), (44, .t (.rows m)), (45, .c (.int .i64 (m.length))), (46, .c (.int .i64 (k)))], [(0, .cells 27 [.c (.int .i64 (x)), .c (.int .i64 (y)), .t (.ints .i64 s), .t (.rows m)])], 1⟩ : St)) (fun k => k ≤ m.length ∧ (m.take k).all winOk = true) (fun k => m.length - k) 0 ⟨Nat.zero_le _, rfl⟩ none (by refine ⟨rfl, rfl, ?_, ?_⟩ <;> ((repeat' (first | exact trivial | exact rfl | refine And.intro ?_ ?_)) <;> (try ((conv => whnf); first | refine vint ?_ | refine vboo ?_ | refine rint ?_ | refine rrow ?_ | skip)) <;> (try first | omega | (simp; done) | ((repeat rw [flts_closed _ (by assumption)]); exact vws_closed _ (by assumption))))) (fun k hI => ?_)
            obtain ⟨hk, hp⟩ := hI
            refine ⟨fun h => ?_, fun h => ?_⟩
            · have h := ltT h
              conv => whnf
              refine ⟨k, rfl, h, ?_⟩
              conv => whnf
              refine ⟨fun h6 => ?_, fun h6 => ?_⟩
              · have h6 : (m.getD k []).length = 4 := by rw [bne_eq_false_iff_eq] at h6; omega
                conv => whnf
                refine ACall.use (allWithin_spec (m.getD k []) _ _ (by omega)) ?_
                conv => whnf
                refine ⟨fun h7 => ?_, fun h7 => ?_⟩
                · have h7 : rowIn (m.getD k []) 0 1 = false := by simpa using h7
                  conv => whnf
                  exact ⟨by rw [goodG, all_false (d := []) h (by rw [winOk, h7, Bool.and_false]), Bool.and_false], rfl⟩
                · have h7 : rowIn (m.getD k []) 0 1 = true := by simpa using h7
                  conv => whnf
                  rw [nat_wrap (by omega)]
                  exact ⟨k + 1, none, (by refine ⟨rfl, rfl, ?_, ?_⟩ <;> ((repeat' (first | exact trivial | exact rfl | refine And.intro ?_ ?_)) <;> (try ((conv => whnf); first | refine vint ?_ | refine vboo ?_ | refine rint ?_ | refine rrow ?_ | skip)) <;> (try first | omega | (simp; done) | ((repeat rw [flts_closed _ (by assumption)]); exact vws_closed _ (by assumption))))), ⟨by omega, all_take_succ (d := []) h hp (by rw [winOk, h7, h6]; rfl)⟩, by omega⟩
              · have h6 : ¬ (m.getD k []).length = 4 := by rw [bne_iff_ne] at h6; omega
                (repeat (conv => whnf); (first | refine ⟨fun h => absurd h (by decide), fun _ => ?_⟩ | refine ⟨fun _ => ?_, fun h => absurd h (by decide)⟩)); conv => whnf
                exact ⟨by rw [goodG, all_false (d := []) h (by rw [winOk, decide_eq_false h6, Bool.false_and]), Bool.and_false], rfl⟩
            · have h := ltF h
              have hm2 := all_end h hp
              conv => whnf
              refine ⟨?_, rfl⟩
              rw [goodG, h1, decide_eq_true h2, decide_eq_true h3, hm2, h4, decide_eq_true h5]
              rfl
        · have h5 : ¬ 0 < sumF s s.length := by simp at h5; omega
          (repeat (conv => whnf); (first | refine ⟨fun h => absurd h (by decide), fun _ => ?_⟩ | refine ⟨fun _ => ?_, fun h => absurd h (by decide)⟩)); conv => whnf
          exact ⟨by rw [goodG, decide_eq_false h5]; simp, rfl⟩
      · have h4 : rowIn s 0 99 = false := by simpa using h4
        (repeat (conv => whnf); (first | refine ⟨fun h => absurd h (by decide), fun _ => ?_⟩ | refine ⟨fun _ => ?_, fun h => absurd h (by decide)⟩)); conv => whnf
        exact ⟨by rw [goodG, h4]; simp, rfl⟩
    · rw [szOk_mul h1] at h2
      have h2 : ¬ (s.length : Int) = x * y := by simpa using h2
      (repeat (conv => whnf); (first | refine ⟨fun h => absurd h (by decide), fun _ => ?_⟩ | refine ⟨fun _ => ?_, fun h => absurd h (by decide)⟩)); conv => whnf
      exact ⟨by rw [goodG, decide_eq_false h2]; simp, rfl⟩
  · have h1 : szOk x y = false := by simpa using h1
    (repeat (conv => whnf); (first | refine ⟨fun h => absurd h (by decide), fun _ => ?_⟩ | refine ⟨fun _ => ?_, fun h => absurd h (by decide)⟩)); conv => whnf
    exact ⟨by rw [goodG, h1]; simp, rfl⟩
end Go.Proofs.Ytpakfehinfcdoaa
