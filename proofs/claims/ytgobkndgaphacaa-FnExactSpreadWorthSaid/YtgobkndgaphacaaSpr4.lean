/- Spreads: the length of a spread; the program. -/
import Derived.Test.YtgobkndgaphacaaSpr3
namespace Go.Proofs.Ytgobkndgaphacaa
open Go.Aw
set_option maxRecDepth 100000
set_option maxHeartbeats 4000000

theorem length_spec (m rows places : List (List Int)) (hg : goodM m = true) (kr : SzM rows) (kp : SzM places) :
    FSpec Try.prog 30 [.t (.rows m), .t (.rows rows), .t (.rows places)] (ex (.c (.int .i64 (sprLen m rows places))) []) := by
  obtain ⟨g1, g2, g3, g4, g5⟩ := goodM_spec hg
  obtain ⟨r1, r2, r3⟩ := kr.all
  obtain ⟨p1, p2, p3⟩ := kp.all
  have bad : sprOk m rows places = false → sprLen m rows places = 0 := fun h => by rw [sprLen, h]; rfl
  refine fspec tyOk mx Try.func30 rfl (by kernel_rfl) rfl ?_
  conv => whnf
  refine ⟨fun h1 => ?_, fun h1 => ?_⟩
  · have h1 : rows.length = m.length := neF h1
    conv => whnf
    refine ⟨0, rfl, by omega, ?_⟩
    conv => whnf
    refine ⟨fun h2 => ?_, fun h2 => ?_⟩
    · have h2 : ¬ places.length = (m.getD 0 []).length := neT h2
      conv => whnf
      refine ⟨?_, rfl⟩
      rw [bad (by rw [sprOk, decide_eq_false h2, Bool.and_false, Bool.false_and, Bool.false_and])]
    · have h2 : places.length = (m.getD 0 []).length := neF h2
      have hall : ∀ r, r ∈ rows ++ places → r.length ≤ 1048576 := fun r hr => (List.mem_append.1 hr).elim (r2 r) (p2 r)
      have hlen : (rows ++ places).length = rows.length + places.length := List.length_append
      have hr0 := r2 _ (getD_mem (d := []) (show 0 < rows.length by omega))
      conv => whnf
      refine ⟨0, rfl, by omega, ?_⟩
      conv => whnf
      refine ACallS.view (R := []) (args' := [.t (.recs 0 [([], rows), ([], places)])]) (st' := ⟨72, [(1, .t (.rows rows)), (7, .c (.int .i64 ((rows.getD 0 []).length)))], [], 0⟩) (by refine ⟨rfl, rfl, ?_, ?_⟩ <;> ((repeat' (first | exact trivial | exact rfl | refine And.intro ?_ ?_)) <;> (try ((conv => whnf); first | refine vint ?_ | refine vboo ?_ | refine rint ?_ | refine rrow ?_ | skip)) <;> (try first | omega | (simp; done) | ((repeat rw [flts_closed _ (by assumption)]); exact vws_closed _ (by assumption))))) ⟨⟨rfl, rfl⟩, trivial⟩ (ACall.use (concat_spec rows places (by omega) r1 p1) ?_)
      conv => whnf
      refine aloopI tyOk mx (fun i : Nat => (⟨72, [(1, .t (.rows rows)), (7, .c (.int .i64 ((rows.getD 0 []).length))), (31, .own 0), (32, .c (.int .i64 ((rows ++ places).length))), (33, .c (.int .i64 (i)))], [(0, .rows 33 3 false (rows ++ places))], 1⟩ : St)) (fun i => i ≤ (rows ++ places).length ∧ ((rows ++ places).take i).all (fun r => inR (rows.getD 0 []).length 1 4 && sprRow (rows.getD 0 []) r) = true) (fun i => (rows ++ places).length - i) 0 ⟨Nat.zero_le _, rfl⟩ none (by refine ⟨rfl, rfl, ?_, ?_⟩ <;> ((repeat' (first | exact trivial | exact rfl | refine And.intro ?_ ?_)) <;> (try ((conv => whnf); first | refine vint ?_ | refine vboo ?_ | refine rint ?_ | refine rrow ?_ | skip)) <;> (try first | omega | (simp; done) | ((repeat rw [flts_closed _ (by assumption)]); exact vws_closed _ (by assumption))))) (fun i hi => ?_)
      obtain ⟨hi, hp⟩ := hi
      refine ⟨fun h4 => ?_, fun h4 => ?_⟩
      · have h4 : i < (rows ++ places).length := by have := ltT h4; omega
        have hri := hall _ (getD_mem (d := []) h4)
        have badi : (inR (rows.getD 0 []).length 1 4 && sprRow (rows.getD 0 []) ((rows ++ places).getD i [])) = false → sprLen m rows places = 0 := fun h5 => bad (by
          rw [Bool.and_eq_false_iff] at h5
          rcases h5 with h5 | h5
          · rw [sprOk, h5, Bool.and_false, Bool.false_and]
          · rw [sprOk, all_false (d := []) h4 h5, Bool.and_false])
        conv => whnf
        refine ⟨i, rfl, h4, ?_⟩
        conv => whnf
        refine ADraw.std tyOk mx ⟨by kernel_rfl, ?_⟩
        conv => whnf
        refine ⟨fun h5 => ?_, fun h5 => ?_⟩
        · have h5 : ((rows ++ places).getD i []).length = (rows.getD 0 []).length := neF h5
          conv => whnf
          refine QCall.use (within_spec _ _ _) ?_
          conv => whnf
          refine ⟨fun h6 => ?_, fun h6 => ?_⟩
          · have h6 : inR (rows.getD 0 []).length 1 4 = true := by simpa using h6
            conv => whnf
            refine QCall.use (allWithin_spec _ _ _ (by omega)) ?_
            conv => whnf
            refine ⟨fun h7 => ?_, fun h7 => ?_⟩
            · have h7 : rowIn ((rows ++ places).getD i []) (-9) 9 = true := by simpa using h7
              conv => whnf
              refine QCall.use (product_spec _ _ (Nat.le_refl _) (by omega)) ?_
              conv => whnf
              refine ⟨0, rfl, by omega, 0, rfl, by omega, ?_⟩
              conv => whnf
              refine QCall.use (product_spec _ _ (Nat.le_refl _) (by omega)) ?_
              conv => whnf
              refine ⟨fun h8 => ?_, fun h8 => ?_⟩
              · have h8 : ¬ dot ((rows ++ places).getD i []) ((rows ++ places).getD i []) = dot (rows.getD 0 []) (rows.getD 0 []) := by simpa using h8
                conv => whnf
                refine ⟨?_, rfl⟩
                rw [badi (by rw [sprRow, decide_eq_false h8, Bool.and_false, Bool.and_false])]
              · have h8 : dot ((rows ++ places).getD i []) ((rows ++ places).getD i []) = dot (rows.getD 0 []) (rows.getD 0 []) := by simpa using h8
                conv => whnf
                rw [nat_wrap (by omega)]
                refine ⟨i + 1, none, ?_, ⟨by omega, all_take_succ (d := []) h4 hp ?_⟩, by omega⟩
                · (refine ⟨rfl, rfl, ?_, ?_⟩ <;> ((repeat' (first | exact trivial | exact rfl | refine And.intro ?_ ?_)) <;> (try ((conv => whnf); first | refine vint ?_ | refine vboo ?_ | refine rint ?_ | refine rrow ?_ | skip)) <;> (try first | omega | (simp; done) | ((repeat rw [flts_closed _ (by assumption)]); exact vws_closed _ (by assumption)))))
                · rw [sprRow, h6, h7, decide_eq_true h5, decide_eq_true h8]; rfl
            · have h7 : rowIn ((rows ++ places).getD i []) (-9) 9 = false := by simpa using h7
              conv => whnf
              (repeat (conv => whnf); (first | refine ⟨fun h => absurd h (by decide), fun _ => ?_⟩ | refine ⟨fun _ => ?_, fun h => absurd h (by decide)⟩)); conv => whnf
              refine ⟨?_, rfl⟩
              rw [badi (by rw [sprRow, h7, Bool.false_and, Bool.false_and, Bool.and_false])]
          · have h6 : inR (rows.getD 0 []).length 1 4 = false := by simpa using h6
            conv => whnf
            (repeat (conv => whnf); (first | refine ⟨fun h => absurd h (by decide), fun _ => ?_⟩ | refine ⟨fun _ => ?_, fun h => absurd h (by decide)⟩)); conv => whnf
            refine ⟨?_, rfl⟩
            rw [badi (by rw [h6, Bool.false_and])]
        · have h5 : ¬ ((rows ++ places).getD i []).length = (rows.getD 0 []).length := neT h5
          conv => whnf
          (repeat (conv => whnf); (first | refine ⟨fun h => absurd h (by decide), fun _ => ?_⟩ | refine ⟨fun _ => ?_, fun h => absurd h (by decide)⟩)); conv => whnf
          refine ⟨?_, rfl⟩
          rw [badi (by rw [sprRow, decide_eq_false h5, Bool.and_false, Bool.false_and, Bool.and_false])]
      · have h4 : ¬ i < (rows ++ places).length := by have := ltF h4; omega
        have hall2 := all_end h4 hp
        simp only [List.all_eq_true, Bool.and_eq_true] at hall2
        have e : sprLen m rows places = dot (rows.getD 0 []) (rows.getD 0 []) := by
          have h3 : inR (rows.getD 0 []).length 1 4 = true := (hall2 (rows.getD 0 []) (List.mem_append.2 (.inl (getD_mem (by omega))))).1
          rw [sprLen, sprOk, h3, decide_eq_true h1, decide_eq_true h2, List.all_eq_true.2 (fun r hr => (hall2 r hr).2)]; rfl
        conv => whnf
        refine ADraw.std tyOk mx ⟨by kernel_rfl, 0, rfl, by omega, 0, rfl, by omega, ?_⟩
        conv => whnf
        refine QCall.use (product_spec _ _ (Nat.le_refl _) (by omega)) ?_
        conv => whnf
        exact ⟨by rw [e], rfl⟩
  · have h1 : ¬ rows.length = m.length := neT h1
    conv => whnf
    (repeat (conv => whnf); (first | refine ⟨fun h => absurd h (by decide), fun _ => ?_⟩ | refine ⟨fun _ => ?_, fun h => absurd h (by decide)⟩)); conv => whnf
    refine ⟨?_, rfl⟩
    rw [bad (by rw [sprOk, decide_eq_false h1, Bool.false_and, Bool.false_and, Bool.false_and])]
end Go.Proofs.Ytgobkndgaphacaa
