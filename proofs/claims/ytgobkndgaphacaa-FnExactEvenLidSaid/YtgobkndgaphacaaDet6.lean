/- Lids: reference and program. -/
import Derived.Test.YtgobkndgaphacaaDet5
namespace Go.Aw
def rowQ (m : List (List Int)) (lid : List Int) (k : Int) (nx i j b : Nat) : Int := if b = i then lid.getD i 0 else if b < j then lidP m lid k nx nx 0 i b else 0
theorem rowQ_zero (m : List (List Int)) (lid : List Int) (k : Int) (nx N i : Nat) : (List.replicate N (0 : Int)).set i (lid.getD i 0) = (List.range N).map (rowQ m lid k nx i 0) := by
  have e : List.replicate N (0 : Int) = (List.range N).map fun _ => 0 := by
    refine List.ext_getElem (by simp) fun i h1 h2 => by simp
  rw [e, map_set]
  refine List.map_congr_left fun b _ => ?_
  unfold rowQ
  by_cases h : b = i
  · rw [if_pos h, if_pos h]
  · rw [if_neg h, if_neg h, if_neg (by omega)]
theorem rowQ_end {m : List (List Int)} {lid : List Int} {k : Int} {nx N i : Nat} : (List.range N).map (rowQ m lid k nx i N) = (List.range N).map fun b => lidP m lid k nx nx 0 i b := by
  refine List.map_congr_left fun b hb => ?_
  have hb : b < N := by simpa using hb
  unfold rowQ
  by_cases h : b = i
  · subst h; rw [if_pos rfl, lidP, if_pos rfl]
  · rw [if_neg h, if_pos hb]
theorem rowQ_one {m : List (List Int)} {lid : List Int} {k : Int} {nx N i j : Nat} (h1 : i < nx) (h2 : nx ≤ j) : ((List.range N).map (rowQ m lid k nx i j)).set j (lidV m k i (j - nx)) = (List.range N).map (rowQ m lid k nx i (j + 1)) := by
  rw [map_set]
  refine List.map_congr_left fun b _ => ?_
  unfold rowQ
  by_cases h : b = j
  · subst h
    rw [if_pos rfl, if_neg (by omega), if_pos (by omega), lidP, if_neg (by omega), if_pos ⟨h1, h2⟩, if_pos (.inl h1)]
  · rw [if_neg h]
    split
    · rfl
    · have : b < j ↔ b < j + 1 := by omega
      simp only [this]
theorem rowQ_two {m : List (List Int)} {lid : List Int} {k : Int} {nx N i j : Nat} (h1 : nx ≤ i) (h2 : j < nx) : ((List.range N).map (rowQ m lid k nx i j)).set j (lidV m k j (i - nx)) = (List.range N).map (rowQ m lid k nx i (j + 1)) := by
  rw [map_set]
  refine List.map_congr_left fun b _ => ?_
  unfold rowQ
  by_cases h : b = j
  · subst h
    rw [if_pos rfl, if_neg (by omega), if_pos (by omega), lidP, if_neg (by omega), if_neg (by omega), if_pos ⟨h1, h2⟩, if_pos (.inl h2)]
  · rw [if_neg h]
    split
    · rfl
    · have : b < j ↔ b < j + 1 := by omega
      simp only [this]
theorem rowQ_no {m : List (List Int)} {lid : List Int} {k : Int} {nx N i j : Nat} (h1 : ¬ (i < nx ∧ nx ≤ j)) (h2 : ¬ (nx ≤ i ∧ j < nx)) : (List.range N).map (rowQ m lid k nx i j) = (List.range N).map (rowQ m lid k nx i (j + 1)) := by
  refine List.map_congr_left fun b _ => ?_
  unfold rowQ
  split
  · rfl
  · rename_i hb
    by_cases h : b = j
    · subst h
      rw [if_neg (by omega), if_pos (by omega), lidP, if_neg (fun e => hb e.symm), if_neg h1, if_neg h2]
    · have : b < j ↔ b < j + 1 := by omega
      simp only [this]
end Go.Aw
namespace Go.Proofs.Ytgobkndgaphacaa
open Go.Aw
set_option maxRecDepth 100000
set_option maxHeartbeats 4000000

theorem lidM_sq {m : List (List Int)} {lid : List Int} {k : Int} (hg : goodM m = true) : Sq (lidM m lid k) ∧ (lidM m lid k).length ≤ 6 := by
  obtain ⟨g1, g2, g3, g4, g5⟩ := goodM_spec hg
  exact ⟨tab_sq (by omega), by rw [lidM, tab_len]; omega⟩

theorem l5Lid_spec (m : List (List Int)) (lid : List Int) (k : Int) (hg : goodM m = true) (kl : lid.length ≤ 1048576) :
    FSpec Try.prog 39 [.t (.rows m), .t (.ints .i64 lid), .c (.int .i64 (k))] (ex (.c (.bool (lidB m lid k))) []) := by
  obtain ⟨g1, g2, g3, g4, g5⟩ := goodM_spec hg
  obtain ⟨hsq, hn⟩ := lidM_sq (lid := lid) (k := k) hg
  have eN : IntKind.i64.wrap ((m.length : Int) + ((m.getD 0 []).length : Int)) = ((m.length + (m.getD 0 []).length : Nat) : Int) := by rw [w64 (by omega) (by omega)]; omega
  refine fspec tyOk mx Try.func39 rfl (by kernel_rfl) rfl ?_
  conv => whnf
  refine aloopI tyOk mx (fun i : Nat => (⟨37, [(0, .t (.rows m)), (1, .t (.ints .i64 lid)), (2, .c (.int .i64 (k))), (7, .c (.int .i64 (i)))], [], 0⟩ : St)) (fun i => i ≤ lid.length ∧ (lid.take i).all (fun x => inR x 0 99) = true) (fun i => lid.length - i) 0 ⟨Nat.zero_le _, rfl⟩ none (by refine ⟨rfl, rfl, ?_, ?_⟩ <;> ((repeat' (first | exact trivial | exact rfl | refine And.intro ?_ ?_)) <;> (try ((conv => whnf); first | refine vint ?_ | refine vboo ?_ | refine rint ?_ | refine rrow ?_ | skip)) <;> (try first | omega | (simp; done) | ((repeat rw [flts_closed _ (by assumption)]); exact vws_closed _ (by assumption))))) (fun i hi => ?_)
  obtain ⟨hi, hp⟩ := hi
  refine ⟨fun h => ?_, fun h => ?_⟩
  · have h : i < lid.length := by have := ltT h; omega
    conv => whnf
    refine ⟨i, rfl, h, ?_⟩
    conv => whnf
    refine ACall.use (l1In_spec _ _ _) ?_
    conv => whnf
    refine ⟨fun h2 => ?_, fun h2 => ?_⟩
    · have h2 : inR (lid.getD i 0) 0 99 = false := by simpa using h2
      conv => whnf
      refine ⟨?_, rfl⟩
      rw [lidB, rowIn, all_false (d := 0) h h2, Bool.false_and, Bool.false_and]
    · have h2 : inR (lid.getD i 0) 0 99 = true := by simpa using h2
      conv => whnf
      rw [nat_wrap (by omega)]
      exact ⟨i + 1, none, (by refine ⟨rfl, rfl, ?_, ?_⟩ <;> ((repeat' (first | exact trivial | exact rfl | refine And.intro ?_ ?_)) <;> (try ((conv => whnf); first | refine vint ?_ | refine vboo ?_ | refine rint ?_ | refine rrow ?_ | skip)) <;> (try first | omega | (simp; done) | ((repeat rw [flts_closed _ (by assumption)]); exact vws_closed _ (by assumption))))), ⟨by omega, all_take_succ (d := 0) h hp h2⟩, by omega⟩
  · have h : ¬ i < lid.length := by have := ltF h; omega
    have hall : rowIn lid 0 99 = true := all_end h hp
    conv => whnf
    refine ⟨0, rfl, by omega, ?_⟩
    conv => whnf
    rw [eN]
    refine ⟨fun h2 => ?_, fun h2 => ?_⟩
    · have h2 : lid.length = m.length + (m.getD 0 []).length := by
        have : (lid.length : Int) = ((m.length + (m.getD 0 []).length : Nat) : Int) := by simpa using h2
        omega
      conv => whnf
      refine ACall.use (l5Matrix_spec m lid k hg h2) ?_
      conv => whnf
      refine ACall.use (l5Never_spec (lidM m lid k) hsq hn) ?_
      conv => whnf
      refine ⟨?_, rfl⟩
      rw [lidB, hall, decide_eq_true h2]; rfl
    · have h2 : ¬ lid.length = m.length + (m.getD 0 []).length := fun e => by rw [e] at h2; simp at h2
      conv => whnf
      refine ⟨?_, rfl⟩
      rw [lidB, decide_eq_false h2, Bool.and_false, Bool.false_and]

theorem isLid_spec (m : List (List Int)) (lid : List Int) (k : Int) (hg : goodM m = true) (kl : lid.length ≤ 1048576) :
    FSpec Try.prog 40 [.t (.rows m), .t (.ints .i64 lid), .c (.int .i64 (k))] (ex (.c (.bool (lidB m lid k))) []) := by
  obtain ⟨g1, g2, g3, g4, g5⟩ := goodM_spec hg
  obtain ⟨hsq, hn⟩ := lidM_sq (lid := lid) (k := k) hg
  have eN : IntKind.i64.wrap ((m.length : Int) + ((m.getD 0 []).length : Int)) = ((m.length + (m.getD 0 []).length : Nat) : Int) := by rw [w64 (by omega) (by omega)]; omega
  refine fspec tyOk mx Try.func40 rfl (by kernel_rfl) rfl ?_
  conv => whnf
  refine ADraw.std tyOk mx ⟨by kernel_rfl, 0, rfl, by omega, ?_⟩
  conv => whnf
  rw [eN]
  refine ⟨fun h2 => ?_, fun h2 => ?_⟩
  · have h2 : lid.length = m.length + (m.getD 0 []).length := neF h2
    conv => whnf
    refine ACall.use (allWithin_spec lid _ _ (by omega)) ?_
    conv => whnf
    refine ⟨fun h3 => ?_, fun h3 => ?_⟩
    · have h3 : rowIn lid 0 99 = false := by simpa using h3
      conv => whnf
      refine ⟨?_, rfl⟩
      rw [lidB, h3, Bool.false_and, Bool.false_and]
    · have h3 : rowIn lid 0 99 = true := by simpa using h3
      conv => whnf
      refine aloopI tyOk mx (fun i : Nat => (⟨109, [(0, .t (.rows m)), (2, .c (.int .i64 (k))), (7, .c (.int .i64 (m.length))), (8, .c (.int .i64 ((m.getD 0 []).length))), (9, .own 0), (32, .t (.ints .i64 lid)), (33, .c (.int .i64 (lid.length))), (34, .c (.int .i64 (i)))], [(0, .rows 33 3 true ((List.range i).map fun a => (List.range (m.length + (m.getD 0 []).length)).map fun b => lidP m lid k m.length m.length 0 a b))], 1⟩ : St)) (fun i => i ≤ lid.length) (fun i => lid.length - i) 0 (Nat.zero_le _) none (by refine ⟨rfl, rfl, ?_, ?_⟩ <;> ((repeat' (first | exact trivial | exact rfl | refine And.intro ?_ ?_)) <;> (try ((conv => whnf); first | refine vint ?_ | refine vboo ?_ | refine rint ?_ | refine rrow ?_ | skip)) <;> (try first | omega | (simp; done) | ((repeat rw [flts_closed _ (by assumption)]); exact vws_closed _ (by assumption))))) (fun i hi => ?_)
      refine ⟨fun h => ?_, fun h => ?_⟩
      · have h : i < lid.length := by have := ltT h; omega
        conv => whnf
        refine ⟨i, rfl, h, ?_⟩
        conv => whnf
        refine ⟨m.length + (m.getD 0 []).length, eN, eN, by simp only [room]; omega, ?_⟩
        conv => whnf
        refine ⟨i, rfl, by rw [List.length_replicate]; omega, ?_⟩
        conv => whnf
        rw [rowQ_zero m lid k m.length, eN]
        refine aloopI tyOk mx (fun j : Nat => (⟨109, [(0, .t (.rows m)), (2, .c (.int .i64 (k))), (7, .c (.int .i64 (m.length))), (8, .c (.int .i64 ((m.getD 0 []).length))), (9, .own 0), (10, .c (.int .i64 (i))), (12, .own 1), (32, .t (.ints .i64 lid)), (33, .c (.int .i64 (lid.length))), (34, .c (.int .i64 (i))), (49, .c (.int .i64 ((m.length + (m.getD 0 []).length : Nat)))), (50, .c (.int .i64 (j)))], [(0, .rows 33 3 true ((List.range i).map fun a => (List.range (m.length + (m.getD 0 []).length)).map fun b => lidP m lid k m.length m.length 0 a b)), (1, .ints 3 .i64 ((List.range (m.length + (m.getD 0 []).length)).map (rowQ m lid k m.length i j)))], 2⟩ : St)) (fun j => j ≤ m.length + (m.getD 0 []).length) (fun j => m.length + (m.getD 0 []).length - j) 0 (Nat.zero_le _) none (by refine ⟨rfl, rfl, ?_, ?_⟩ <;> ((repeat' (first | exact trivial | exact rfl | refine And.intro ?_ ?_)) <;> (try ((conv => whnf); first | refine vint ?_ | refine vboo ?_ | refine rint ?_ | refine rrow ?_ | skip)) <;> (try first | omega | (simp; done) | ((repeat rw [flts_closed _ (by assumption)]); exact vws_closed _ (by assumption))))) (fun j hj => ?_)
        have hrl : ((List.range (m.length + (m.getD 0 []).length)).map (rowQ m lid k m.length i j)).length = m.length + (m.getD 0 []).length := by simp
        refine ⟨fun h5 => ?_, fun h5 => ?_⟩
        · have h5 : j < m.length + (m.getD 0 []).length := by have := ltT h5; omega
          conv => whnf
          refine ⟨fun h6 => ?_, fun h6 => ?_⟩
          · have h6 : i < m.length := by have := ltT h6; omega
            have hil := (g5 _ (getD_mem (d := []) h6)).1
            conv => whnf
            refine ⟨fun h7 => ?_, fun h7 => ?_⟩
            · have h7 : m.length ≤ j := by have := of_decide_eq_true h7; omega
              have e5 : IntKind.i64.wrap ((j : Int) - (m.length : Int)) = ((j - m.length : Nat) : Int) := by rw [w64 (by omega) (by omega)]; omega
              conv => whnf
              refine ⟨i, rfl, h6, ?_⟩
              conv => whnf
              refine ⟨j - m.length, e5, by omega, ?_⟩
              conv => whnf
              refine ⟨j, rfl, by omega, ?_⟩
              conv => whnf
              rw [nat_wrap (by omega)]
              refine ⟨j + 1, none, ?_, by omega, by omega⟩
              (refine ⟨rfl, rfl, ?_, ?_⟩ <;> ((repeat' (first | exact trivial | exact rfl | refine And.intro ?_ ?_)) <;> (try ((conv => whnf); first | refine vint ?_ | refine vboo ?_ | refine rint ?_ | refine rrow ?_ | skip)) <;> (try first | omega | (simp; done) | ((repeat rw [flts_closed _ (by assumption)]); exact vws_closed _ (by assumption)))))
              exact rowQ_one h6 h7
            · have h7 : ¬ m.length ≤ j := by have := of_decide_eq_false h7; omega
              conv => whnf
              refine ⟨fun h8 => ?_, fun h8 => ?_⟩
              · exfalso; have := of_decide_eq_true h8; omega
              · conv => whnf
                (repeat (conv => whnf); (first | refine ⟨fun h => absurd h (by decide), fun _ => ?_⟩ | refine ⟨fun _ => ?_, fun h => absurd h (by decide)⟩)); conv => whnf
                rw [nat_wrap (by omega)]
                refine ⟨j + 1, none, ?_, by omega, by omega⟩
                (refine ⟨rfl, rfl, ?_, ?_⟩ <;> ((repeat' (first | exact trivial | exact rfl | refine And.intro ?_ ?_)) <;> (try ((conv => whnf); first | refine vint ?_ | refine vboo ?_ | refine rint ?_ | refine rrow ?_ | skip)) <;> (try first | omega | (simp; done) | ((repeat rw [flts_closed _ (by assumption)]); exact vws_closed _ (by assumption)))))
                exact rowQ_no (by omega) (by omega)
          · have h6 : ¬ i < m.length := by have := ltF h6; omega
            conv => whnf
            (repeat (conv => whnf); (first | refine ⟨fun h => absurd h (by decide), fun _ => ?_⟩ | refine ⟨fun _ => ?_, fun h => absurd h (by decide)⟩)); conv => whnf
            refine ⟨fun h8 => ?_, fun h8 => ?_⟩
            · have h8 : m.length ≤ i := by have := of_decide_eq_true h8; omega
              conv => whnf
              refine ⟨fun h7 => ?_, fun h7 => ?_⟩
              · have h7 : j < m.length := by have := ltT h7; omega
                have hil := (g5 _ (getD_mem (d := []) h7)).1
                have e5 : IntKind.i64.wrap ((i : Int) - (m.length : Int)) = ((i - m.length : Nat) : Int) := by rw [w64 (by omega) (by omega)]; omega
                conv => whnf
                refine ⟨j, rfl, h7, ?_⟩
                conv => whnf
                refine ⟨i - m.length, e5, by omega, ?_⟩
                conv => whnf
                refine ⟨j, rfl, by omega, ?_⟩
                conv => whnf
                rw [nat_wrap (by omega)]
                refine ⟨j + 1, none, ?_, by omega, by omega⟩
                (refine ⟨rfl, rfl, ?_, ?_⟩ <;> ((repeat' (first | exact trivial | exact rfl | refine And.intro ?_ ?_)) <;> (try ((conv => whnf); first | refine vint ?_ | refine vboo ?_ | refine rint ?_ | refine rrow ?_ | skip)) <;> (try first | omega | (simp; done) | ((repeat rw [flts_closed _ (by assumption)]); exact vws_closed _ (by assumption)))))
                exact rowQ_two h8 h7
              · have h7 : ¬ j < m.length := by have := ltF h7; omega
                conv => whnf
                rw [nat_wrap (by omega)]
                refine ⟨j + 1, none, ?_, by omega, by omega⟩
                (refine ⟨rfl, rfl, ?_, ?_⟩ <;> ((repeat' (first | exact trivial | exact rfl | refine And.intro ?_ ?_)) <;> (try ((conv => whnf); first | refine vint ?_ | refine vboo ?_ | refine rint ?_ | refine rrow ?_ | skip)) <;> (try first | omega | (simp; done) | ((repeat rw [flts_closed _ (by assumption)]); exact vws_closed _ (by assumption)))))
                exact rowQ_no (by omega) (by omega)
            · exfalso; have := of_decide_eq_false h8; omega
        · have h5 : ¬ j < m.length + (m.getD 0 []).length := by have := ltF h5; omega
          obtain rfl : j = m.length + (m.getD 0 []).length := by omega
          conv => whnf
          refine ⟨by simp [room]; omega, ?_⟩
          conv => whnf
          rw [nat_wrap (by omega)]
          refine ⟨i + 1, none, ?_, by omega, by omega⟩
          (refine ⟨rfl, rfl, ?_, ?_⟩ <;> ((repeat' (first | exact trivial | exact rfl | refine And.intro ?_ ?_)) <;> (try ((conv => whnf); first | refine vint ?_ | refine vboo ?_ | refine rint ?_ | refine rrow ?_ | skip)) <;> (try first | omega | (simp; done) | ((repeat rw [flts_closed _ (by assumption)]); exact vws_closed _ (by assumption)))))
          rw [rowQ_end]
          exact map_range_succ (fun a => (List.range (m.length + (m.getD 0 []).length)).map fun b => lidP m lid k m.length m.length 0 a b) i
      · have h : ¬ i < lid.length := by have := ltF h; omega
        obtain rfl : i = lid.length := by omega
        have e0 : ((List.range lid.length).map fun a => (List.range (m.length + (m.getD 0 []).length)).map fun b => lidP m lid k m.length m.length 0 a b) = lidM m lid k := by rw [h2]; rfl
        rw [e0]
        conv => whnf
        refine ACall.use (neverNegative_spec (lidM m lid k) hsq hn) ?_
        conv => whnf
        refine ⟨?_, rfl⟩
        rw [lidB, h3, decide_eq_true h2]; rfl
  · have h2 : ¬ lid.length = m.length + (m.getD 0 []).length := neT h2
    conv => whnf
    (repeat (conv => whnf); (first | refine ⟨fun h => absurd h (by decide), fun _ => ?_⟩ | refine ⟨fun _ => ?_, fun h => absurd h (by decide)⟩)); conv => whnf
    refine ⟨?_, rfl⟩
    rw [lidB, decide_eq_false h2, Bool.and_false, Bool.false_and]
end Go.Proofs.Ytgobkndgaphacaa
