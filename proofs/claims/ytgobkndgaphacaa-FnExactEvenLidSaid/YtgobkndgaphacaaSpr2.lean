/- Spreads: the length of a spread; the reference. -/
import Derived.Test.YtgobkndgaphacaaSpr1
import Derived.Test.YtgobkndgaphacaaMark
namespace Go.Aw
theorem neF {a b : Nat} (h : ((a : Int) != (b : Int)) = false) : a = b := by
  have : (a : Int) = b := by simpa using h
  omega
theorem neT {a b : Nat} (h : ((a : Int) != (b : Int)) = true) : ¬ a = b := fun e => by subst e; simp at h
end Go.Aw
namespace Go.Proofs.Ytgobkndgaphacaa
open Go.Aw
set_option maxRecDepth 100000
set_option maxHeartbeats 4000000

theorem l5Length_spec (m rows places : List (List Int)) (hg : goodM m = true) (kr : SzM rows) (kp : SzM places) :
    FSpec Try.prog 28 [.t (.rows m), .t (.rows rows), .t (.rows places)] (ex (.c (.int .i64 (sprLen m rows places))) []) := by
  obtain ⟨g1, g2, g3, g4, g5⟩ := goodM_spec hg
  obtain ⟨r1, r2, r3⟩ := kr.all
  obtain ⟨p1, p2, p3⟩ := kp.all
  have bad : sprOk m rows places = false → sprLen m rows places = 0 := fun h => by rw [sprLen, h]; rfl
  refine fspec tyOk mx Try.func28 rfl (by kernel_rfl) rfl ?_
  conv => whnf
  refine ⟨fun h1 => ?_, fun h1 => ?_⟩
  · have h1 : rows.length = m.length := neF h1
    conv => whnf
    refine ⟨0, rfl, by omega, ?_⟩
    conv => whnf
    refine ⟨fun h2 => ?_, fun h2 => ?_⟩
    · have h2 : places.length = (m.getD 0 []).length := neF h2
      conv => whnf
      refine ⟨0, rfl, by omega, ?_⟩
      conv => whnf
      refine ACall.use (l1In_spec _ _ _) ?_
      conv => whnf
      refine ⟨fun h3 => ?_, fun h3 => ?_⟩
      · have h3 : inR (rows.getD 0 []).length 1 4 = false := by simpa using h3
        conv => whnf
        refine ⟨?_, rfl⟩
        rw [bad (by rw [sprOk, h3, Bool.and_false, Bool.false_and])]
      · have h3 : inR (rows.getD 0 []).length 1 4 = true := by simpa using h3
        have hall : ∀ r, r ∈ rows ++ places → r.length ≤ 1048576 := fun r hr => (List.mem_append.1 hr).elim (r2 r) (p2 r)
        have hlen : (rows ++ places).length = rows.length + places.length := List.length_append
        have hok : ∀ i : Nat, ((rows ++ places).take i).all (sprRow (rows.getD 0 [])) = true → ¬ i < (rows ++ places).length → sprLen m rows places = dot (rows.getD 0 []) (rows.getD 0 []) := fun i h4 h5 => by
          rw [sprLen, sprOk, h3, all_end h5 h4, decide_eq_true h1, decide_eq_true h2]; rfl
        conv => whnf
        refine ⟨by simp [room]; omega, ?_⟩
        conv => whnf
        refine ⟨by simp [room]; omega, ?_⟩
        conv => whnf
        refine aloopI tyOk mx (fun i : Nat => (⟨78, [(1, .t (.rows rows)), (7, .own 0), (8, .c (.int .i64 (i)))], [(0, .rows 33 3 false (rows ++ places))], 1⟩ : St)) (fun i => i ≤ (rows ++ places).length ∧ ((rows ++ places).take i).all (sprRow (rows.getD 0 [])) = true) (fun i => (rows ++ places).length - i) 0 ⟨Nat.zero_le _, rfl⟩ none (by refine ⟨rfl, rfl, ?_, ?_⟩ <;> ((repeat' (first | exact trivial | exact rfl | refine And.intro ?_ ?_)) <;> (try ((conv => whnf); first | refine vint ?_ | refine vboo ?_ | refine rint ?_ | refine rrow ?_ | skip)) <;> (try first | omega | (simp; done) | ((repeat rw [flts_closed _ (by assumption)]); exact vws_closed _ (by assumption))))) (fun i hi => ?_)
        obtain ⟨hi, hp⟩ := hi
        refine ⟨fun h4 => ?_, fun h4 => ?_⟩
        · have h4 : i < (rows ++ places).length := by have := ltT h4; omega
          have hri := hall _ (getD_mem (d := []) h4)
          have hr0 := r2 _ (getD_mem (d := []) (show 0 < rows.length by omega))
          have badi : sprRow (rows.getD 0 []) ((rows ++ places).getD i []) = false → sprLen m rows places = 0 := fun h5 => bad (by
            rw [sprOk, all_false (d := []) h4 h5, Bool.and_false])
          refine ADraw.std tyOk mx ⟨by kernel_rfl, i, rfl, h4, ?_⟩
          conv => whnf
          refine ⟨0, rfl, by omega, ?_⟩
          conv => whnf
          refine QCall.use (l5Row_spec _ _ 9 (by omega) (by omega) (by omega)) ?_
          conv => whnf
          refine ⟨fun h5 => ?_, fun h5 => ?_⟩
          · conv => whnf
            refine ⟨i, rfl, h4, i, rfl, h4, ?_⟩
            conv => whnf
            refine QCall.use (l5Dot_spec _ _ (Nat.le_refl _) (by omega)) ?_
            conv => whnf
            refine ⟨0, rfl, by omega, 0, rfl, by omega, ?_⟩
            conv => whnf
            refine QCall.use (l5Dot_spec _ _ (Nat.le_refl _) (by omega)) ?_
            conv => whnf
            refine ⟨fun h6 => ?_, fun h6 => ?_⟩
            · conv => whnf
              refine ⟨?_, rfl⟩
              rw [badi (by rw [sprRow, decide_eq_false (p := dot _ _ = dot _ _) (by simpa using h6), Bool.and_false])]
            · conv => whnf
              rw [nat_wrap (by omega)]
              refine ⟨i + 1, none, ?_, ⟨by omega, all_take_succ (d := []) h4 hp ?_⟩, by omega⟩
              · (refine ⟨rfl, rfl, ?_, ?_⟩ <;> ((repeat' (first | exact trivial | exact rfl | refine And.intro ?_ ?_)) <;> (try ((conv => whnf); first | refine vint ?_ | refine vboo ?_ | refine rint ?_ | refine rrow ?_ | skip)) <;> (try first | omega | (simp; done) | ((repeat rw [flts_closed _ (by assumption)]); exact vws_closed _ (by assumption)))))
              · simp only [sprRow]
                simp at h5 h6 ⊢
                exact ⟨⟨h5.1, by omega⟩, h6⟩
          · conv => whnf
            first | refine ⟨fun h => absurd h (by decide), fun _ => ?_⟩ | refine ⟨fun _ => ?_, fun h => absurd h (by decide)⟩
            conv => whnf
            refine ⟨?_, rfl⟩
            rw [badi (by
              have h5 : (rowIn ((rows ++ places).getD i []) (-9) 9 && decide ((((rows ++ places).getD i []).length : Int) = ((rows.getD 0 []).length : Int))) = false := by simpa only [Bool.not_eq_true'] using h5
              simp only [Int.natCast_inj] at h5
              rw [sprRow, h5, Bool.false_and])]
        · have h4 : ¬ i < (rows ++ places).length := by have := ltF h4; omega
          have e := hok i hp h4
          have hr0 := r2 _ (getD_mem (d := []) (show 0 < rows.length by omega))
          conv => whnf
          refine ADraw.std tyOk mx ⟨by kernel_rfl, 0, rfl, by omega, 0, rfl, by omega, ?_⟩
          conv => whnf
          refine QCall.use (l5Dot_spec _ _ (Nat.le_refl _) (by omega)) ?_
          conv => whnf
          exact ⟨by rw [e], rfl⟩
    · have h2 : ¬ places.length = (m.getD 0 []).length := neT h2
      conv => whnf
      first | refine ⟨fun h => absurd h (by decide), fun _ => ?_⟩ | refine ⟨fun _ => ?_, fun h => absurd h (by decide)⟩
      conv => whnf
      refine ⟨?_, rfl⟩
      rw [bad (by rw [sprOk, decide_eq_false h2, Bool.and_false, Bool.false_and, Bool.false_and])]
  · have h1 : ¬ rows.length = m.length := neT h1
    conv => whnf
    (repeat (conv => whnf); (first | refine ⟨fun h => absurd h (by decide), fun _ => ?_⟩ | refine ⟨fun _ => ?_, fun h => absurd h (by decide)⟩)); conv => whnf
    refine ⟨?_, rfl⟩
    rw [bad (by rw [sprOk, decide_eq_false h1, Bool.false_and, Bool.false_and, Bool.false_and])]
end Go.Proofs.Ytgobkndgaphacaa
