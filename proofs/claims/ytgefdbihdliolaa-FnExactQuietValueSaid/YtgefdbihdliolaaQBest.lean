/- The best extreme box of a game: reference and program. -/
import Derived.Test.YtgefdbihdliolaaQGame
import Derived.Test.YtgefdbihdliolaaRange2
import Derived.Test.YtgefdbihdliolaaEight
namespace Go.Aw
theorem wRow_bd {f m : List (List Int)} {i : Nat} (hf : ∀ k, 0 ≤ (f.getD i []).getD k 0 ∧ (f.getD i []).getD k 0 ≤ 99) (hm : ∀ k, 0 ≤ (m.getD i []).getD k 0 ∧ (m.getD i []).getD k 0 ≤ 2) {a : Int} (h0 : 0 ≤ a) (h1 : a ≤ 10000) :
    ∀ n : Nat, n ≤ 4 → 0 ≤ wRow f m i a n ∧ wRow f m i a n ≤ a + 198 * (n : Int)
  | 0, _ => ⟨h0, by show a ≤ _; omega⟩
  | n + 1, hn => by
    obtain ⟨g1, g2⟩ := wRow_bd hf hm h0 h1 n (by omega)
    have hp := Int.mul_nonneg (hf n).1 (hm n).1
    have hq : (f.getD i []).getD n 0 * (m.getD i []).getD n 0 ≤ 99 * 2 := Int.mul_le_mul (hf n).2 (hm n).2 (hm n).1 (by omega)
    have e1 : W ((f.getD i []).getD n 0 * (m.getD i []).getD n 0) = (f.getD i []).getD n 0 * (m.getD i []).getD n 0 := w64 (by omega) (by omega)
    have e : wRow f m i a (n + 1) = W (wRow f m i a n + W ((f.getD i []).getD n 0 * (m.getD i []).getD n 0)) := rfl
    rw [e, e1]
    generalize (f.getD i []).getD n 0 * (m.getD i []).getD n 0 = z at hp hq
    have e2 : W (wRow f m i a n + z) = wRow f m i a n + z := w64 (by omega) (by omega)
    rw [e2]
    omega
theorem wTo_bd {f m : List (List Int)} (hf : ∀ i k, 0 ≤ (f.getD i []).getD k 0 ∧ (f.getD i []).getD k 0 ≤ 99) (hm : ∀ i k, 0 ≤ (m.getD i []).getD k 0 ∧ (m.getD i []).getD k 0 ≤ 2) :
    ∀ n : Nat, n ≤ 9 → 0 ≤ wTo f m n ∧ wTo f m n ≤ 792 * (n : Int)
  | 0, _ => ⟨Int.le_refl _, Int.le_refl _⟩
  | n + 1, hn => by
    obtain ⟨g1, g2⟩ := wTo_bd hf hm n (by omega)
    have := wRow_bd (i := n) (hf n) (hm n) g1 (by omega) 4 (Nat.le_refl _)
    have e : wTo f m (n + 1) = wRow f m n (wTo f m n) 4 := rfl
    rw [e]
    omega
end Go.Aw
namespace Go.Proofs.Ytgefdbihdliolaa
open Go.Aw
set_option maxRecDepth 100000
set_option maxHeartbeats 4000000

theorem exRow_good {i : Nat} (h : i < 24) : goodB 2 2 2 (exRow i) = true := by
  have : ∀ i : Nat, i < 24 → goodB 2 2 2 (exRow i) = true := by decide +kernel
  exact this i h
theorem exRow_sz (i : Nat) : SzM (exRow i) := by
  have h1 := exRow_len i
  have h2 := tot_le_mul (m := exRow i) (n := 4) (fun q hq => by rw [exRow_rows i q hq]; omega)
  unfold SzM; omega
theorem ent_bd {m : List (List Int)} {a b : Int} (ha : a ≤ 0) (hb : 0 ≤ b) (h : ∀ r, r ∈ m → ∀ v, v ∈ r → a ≤ v ∧ v ≤ b) (i k : Nat) : a ≤ (m.getD i []).getD k 0 ∧ (m.getD i []).getD k 0 ≤ b := by
  by_cases hi : i < m.length
  · by_cases hk : k < (m.getD i []).length
    · exact h _ (getD_mem hi) _ (getD_mem hk)
    · rw [List.getD_eq_getElem?_getD (l := m.getD i []), List.getElem?_eq_none (by omega)]
      exact ⟨ha, hb⟩
  · rw [List.getD_eq_getElem?_getD (l := m), List.getElem?_eq_none (by omega)]
    exact ⟨by simpa using ha, by simpa using hb⟩
theorem funG_ent {s : List Int} {m : List (List Int)} (hs : ∀ v, v ∈ s → 0 ≤ v ∧ v ≤ 99) (hm : ∀ r, r ∈ m → ∀ v, v ∈ r → 0 ≤ v ∧ v ≤ 1) : ∀ r, r ∈ funG s m → ∀ v, v ∈ r → 0 ≤ v ∧ v ≤ 99 := fun r hr v hv => by
  obtain ⟨i, hi, rfl⟩ := List.mem_map.1 hr
  obtain ⟨w, hw, rfl⟩ := List.mem_map.1 hv
  have h1 := hm _ (getD_mem (d := []) (by simpa using hi)) w hw
  have h2 : 0 ≤ s.getD i 0 ∧ s.getD i 0 ≤ 99 := by
    by_cases hk : i < s.length
    · exact hs _ (getD_mem hk)
    · rw [List.getD_eq_getElem?_getD, List.getElem?_eq_none (by omega)]; exact ⟨Int.le_refl _, by decide⟩
  have hp := Int.mul_nonneg h1.1 h2.1
  have hq : w * s.getD i 0 ≤ 1 * 99 := Int.mul_le_mul h1.2 h2.2 h2.1 (by omega)
  have e : W (w * s.getD i 0) = w * s.getD i 0 := w64 (by omega) (by omega)
  rw [e]; omega
theorem exW_pos {s : List Int} {m : List (List Int)} (hs : ∀ v, v ∈ s → 0 ≤ v ∧ v ≤ 99) (hm : ∀ r, r ∈ m → ∀ v, v ∈ r → 0 ≤ v ∧ v ≤ 1) {i : Nat} (hi : i < 24) : 0 ≤ exW (funG s m) i := by
  obtain ⟨_, _, _, _, _, _, _, _, _, _, _, _, q9⟩ := goodB_spec (exRow_good hi)
  have := wTo_bd (f := funG s m) (m := exRow i) (fun i k => ent_bd (by omega) (by omega) (funG_ent hs hm) i k) (fun i k => ent_bd (by omega) (by omega) (fun r hr => (q9 r hr).2.1) i k) 4 (by omega)
  rw [exW, worthF, exRow_len]
  exact this.1

def qgOk (x y : Int) (s : List Int) (m : List (List Int)) : Bool := goodG x y s m && (decide (x = 2) && decide (y = 2))
theorem qgOk_spec {x y : Int} {s : List Int} {m : List (List Int)} (h : qgOk x y s m = true) : x = 2 ∧ y = 2 ∧ goodG x y s m = true ∧ s.length = 4 ∧ m.length = 4 ∧ (∀ v, v ∈ s → 0 ≤ v ∧ v ≤ 99) ∧ (∀ r, r ∈ m → r.length = 4) ∧ (∀ r, r ∈ m → ∀ v, v ∈ r → 0 ≤ v ∧ v ≤ 1) := by
  simp only [qgOk, Bool.and_eq_true, decide_eq_true_eq] at h
  obtain ⟨h1, h2, h3⟩ := h
  obtain ⟨a, b, e1, e2, _, _, _, _, g5, g6, g7, g8, g9, g10⟩ := goodG_spec h1
  obtain rfl : a = 2 := by omega
  obtain rfl : b = 2 := by omega
  exact ⟨h2, h3, h1, g5, g6, g8, fun r hr => (g10 r hr).1, fun r hr => (g10 r hr).2⟩
def qbI (s : List Int) (m : List (List Int)) : Nat := bIx (exW (funG s m)) 23
def qvB (x y : Int) (s : List Int) (m : List (List Int)) : Int := if qgOk x y s m then (qbI s m : Int) else 0
def qvV (x y : Int) (s : List Int) (m : List (List Int)) : Int := if qgOk x y s m then exW (funG s m) (qbI s m) else 0

theorem l6Best_spec (f : List (List Int)) (hf : f.length = 4) (h4 : ∀ r, r ∈ f → r.length = 4) : FSpec Try.prog 102 [.t (.rows f)] (ex (.c (.int .i64 (bIx (exW f) 23))) []) := by
  have hl := exL_len 24
  refine fspec tyOk mx Try.func102 rfl (by kernel_rfl) rfl ?_
  conv => whnf
  refine ACall.use l6Extremes_spec ?_
  conv => whnf
  refine aloopI tyOk mx (fun j : Nat => (⟨28, [(0, .t (.rows f)), (3, .t (.recs 3 (exL 24))), (4, .c (.int .i64 (bIx (exW f) j))), (5, .c (.int .i64 ((j + 1 : Nat))))], [], 0⟩ : St)) (fun j => j ≤ 23) (fun j => 23 - j) 0 (Nat.zero_le _) none (by refine ⟨rfl, rfl, ?_, ?_⟩ <;> ((repeat' (first | exact trivial | exact rfl | refine And.intro ?_ ?_)) <;> (try ((conv => whnf); first | refine vint ?_ | refine vboo ?_ | refine rint ?_ | refine rrow ?_ | skip)) <;> (try first | omega | (simp; done) | ((repeat rw [flts_closed _ (by assumption)]); exact vws_closed _ (by assumption))))) (fun j hj => ?_)
  have hb := bIx_le (exW f) j
  refine ⟨fun h => ?_, fun h => ?_⟩
  · have h : j + 1 < 24 := by have := ltT h; omega
    conv => whnf
    refine ADraw.std tyOk mx ⟨by kernel_rfl, j + 1, rfl, by omega, ?_⟩
    conv => whnf
    rw [exL_get h]
    refine QCall.use (exW_spec f hf h4 (j + 1) 2 2 2) ?_
    conv => whnf
    refine ⟨bIx (exW f) j, rfl, by omega, ?_⟩
    conv => whnf
    rw [exL_get (i := bIx (exW f) j) (by omega)]
    refine QCall.use (exW_spec f hf h4 (bIx (exW f) j) 2 2 2) ?_
    conv => whnf
    refine ⟨fun h2 => ?_, fun h2 => ?_⟩
    · have h2 := of_decide_eq_true h2
      have e : bIx (exW f) (j + 1) = j + 1 := by rw [bIx, if_pos h2]
      conv => whnf
      rw [nat_wrap (by omega)]
      refine ⟨j + 1, none, ?_, by omega, by omega⟩
      (refine ⟨rfl, rfl, ?_, ?_⟩ <;> ((repeat' (first | exact trivial | exact rfl | refine And.intro ?_ ?_)) <;> (try ((conv => whnf); first | refine vint ?_ | refine vboo ?_ | refine rint ?_ | refine rrow ?_ | skip)) <;> (try first | omega | (simp; done) | ((repeat rw [flts_closed _ (by assumption)]); exact vws_closed _ (by assumption)))))
      all_goals rw [e]
    · have h2 := of_decide_eq_false h2
      have e : bIx (exW f) (j + 1) = bIx (exW f) j := by rw [bIx, if_neg h2]
      conv => whnf
      rw [nat_wrap (by omega)]
      refine ⟨j + 1, none, ?_, by omega, by omega⟩
      (refine ⟨rfl, rfl, ?_, ?_⟩ <;> ((repeat' (first | exact trivial | exact rfl | refine And.intro ?_ ?_)) <;> (try ((conv => whnf); first | refine vint ?_ | refine vboo ?_ | refine rint ?_ | refine rrow ?_ | skip)) <;> (try first | omega | (simp; done) | ((repeat rw [flts_closed _ (by assumption)]); exact vws_closed _ (by assumption)))))
      all_goals rw [e]
  · have h : ¬ j + 1 < 24 := by have := ltF h; omega
    obtain rfl : j = 23 := by omega
    conv => whnf
    exact ⟨rfl, rfl⟩

theorem l6Game_spec (x y : Int) (s : List Int) (m : List (List Int)) (ks : SzI s) (km : SzM m) : FSpec Try.prog 101 [.ag [.c (.int .i64 (x)), .c (.int .i64 (y)), .t (.ints .i64 s), .t (.rows m)]] (ex (.c (.bool (qgOk x y s m))) []) := by
  refine fspec tyOk mx Try.func101 rfl (by kernel_rfl) rfl ?_
  conv => whnf
  refine ACall.use (l4Game_spec x y s m ks km) ?_
  conv => whnf
  refine ⟨fun h => ?_, fun h => ?_⟩
  · have h : goodG x y s m = true := by simpa using h
    conv => whnf
    refine ⟨fun h2 => ?_, fun h2 => ?_⟩
    · have h2 : x = 2 := by simpa using h2
      conv => whnf
      refine ⟨?_, rfl⟩
      rw [qgOk, h, decide_eq_true h2]
      by_cases h3 : y = 2
      · rw [decide_eq_true h3, h3]; rfl
      · rw [decide_eq_false h3]
        have : (y == 2) = false := by simpa using h3
        rw [this]; rfl
    · have h2 : ¬ x = 2 := by simpa using h2
      (repeat (conv => whnf); (first | refine ⟨fun h => absurd h (by decide), fun _ => ?_⟩ | refine ⟨fun _ => ?_, fun h => absurd h (by decide)⟩)); conv => whnf
      refine ⟨?_, rfl⟩
      rw [qgOk, decide_eq_false h2, Bool.false_and, Bool.and_false]
  · have h : goodG x y s m = false := by simpa using h
    (repeat (conv => whnf); (first | refine ⟨fun h => absurd h (by decide), fun _ => ?_⟩ | refine ⟨fun _ => ?_, fun h => absurd h (by decide)⟩)); conv => whnf
    refine ⟨?_, rfl⟩
    rw [qgOk, h, Bool.false_and]

def qM (f : List (List Int)) : Nat → Int
  | 0 => -1
  | i + 1 => exW f (bIx (exW f) i)
theorem qM_same {f : List (List Int)} {i : Nat} (hb : bIx (exW f) i = bIx (exW f) (i - 1)) (h1 : 1 ≤ i) : qM f i = qM f (i + 1) := by
  obtain ⟨k, rfl⟩ : ∃ k, i = k + 1 := ⟨i - 1, by omega⟩
  show exW f (bIx (exW f) k) = exW f (bIx (exW f) (k + 1))
  rw [hb]; rfl
theorem quietBest_spec (x y : Int) (s : List Int) (m : List (List Int)) (ks : SzI s) (km : SzM m) (h : qgOk x y s m = true) :
    FSpec Try.prog 106 [.ag [.c (.int .i64 (x)), .c (.int .i64 (y)), .t (.ints .i64 s), .t (.rows m)]] (ex (.tu [.c (.int .i64 (qbI s m)), .c (.int .i64 (exW (funG s m) (qbI s m)))]) []) := by
  obtain ⟨rfl, rfl, h0, hs, hm, hs2, hm4, hm2⟩ := qgOk_spec h
  have step : ∀ i : Nat, i < 24 → (exW (funG s m) i > qM (funG s m) i → bIx (exW (funG s m)) i = i) ∧ (¬ exW (funG s m) i > qM (funG s m) i → bIx (exW (funG s m)) i = bIx (exW (funG s m)) (i - 1) ∧ 1 ≤ i) := fun i hi => by
    match i with
    | 0 =>
      refine ⟨fun _ => rfl, fun h => absurd ?_ h⟩
      have := exW_pos hs2 hm2 hi
      show _ > (-1 : Int)
      omega
    | i + 1 =>
      refine ⟨fun h => ?_, fun h => ⟨?_, by omega⟩⟩
      · have h' : exW (funG s m) (i + 1) > exW (funG s m) (bIx (exW (funG s m)) i) := h
        rw [bIx, if_pos h']
      · have h' : ¬ exW (funG s m) (i + 1) > exW (funG s m) (bIx (exW (funG s m)) i) := h
        rw [bIx, if_neg h']; rfl
  refine fspec tyOk mx Try.func106 rfl (by kernel_rfl) rfl ?_
  conv => whnf
  refine aloopI tyOk mx (fun i : Nat => (⟨27, [(1, .ptr 0 0), (4, .c (.int .i64 (bIx (exW (funG s m)) (i - 1)))), (5, .c (.int .i64 (qM (funG s m) i))), (9, .c (.int .i64 (i)))], [(0, .cells 66 [.c (.int .i64 (2)), .c (.int .i64 (2)), .t (.ints .i64 s), .t (.rows m)])], 1⟩ : St)) (fun i => i ≤ 24) (fun i => 24 - i) 0 (Nat.zero_le _) none (by refine ⟨rfl, rfl, ?_, ?_⟩ <;> ((repeat' (first | exact trivial | exact rfl | refine And.intro ?_ ?_)) <;> (try ((conv => whnf); first | refine vint ?_ | refine vboo ?_ | refine rint ?_ | refine rrow ?_ | skip)) <;> (try first | omega | (simp; done) | ((repeat rw [flts_closed _ (by assumption)]); exact vws_closed _ (by assumption))))) (fun i hi => ?_)
  refine ⟨fun h2 => ?_, fun h2 => ?_⟩
  · have h2 : i < 24 := by have := of_decide_eq_true h2; omega
    have eOk : gbOk 2 2 s m 2 2 2 (exRow i) = true := by rw [gbOk, h0, exRow_good h2]; rfl
    have eV : gbV 2 2 s m 2 2 2 (exRow i) = exW (funG s m) i := by rw [gbV, eOk]; rfl
    obtain ⟨st1, st2⟩ := step i h2
    conv => whnf
    refine ADraw.plan tyOk mx (.q 0 (.q 1 (.last 2 (.last 3 (.q 4 (.q 5 (.q 6 (.q 7 (.q 8 (.done))))))))) : Plan) (by kernel_rfl) ?_
    conv => whnf
    refine ACall.useR (extreme_spec i h2) ?_
    conv => whnf
    refine ACall.useR (iBoxScore_spec 2 2 s m 2 2 2 (exRow i) ks km (exRow_sz i)) ?_
    rw [eV, eOk]
    conv => whnf
    repeat' (refine And.intro ?_ ?_ <;> (conv => whnf))
    all_goals
      intro h5
      conv => whnf
      rw [nat_wrap (by omega)]
      refine ⟨i + 1, none, ?_, by omega, by omega⟩
      (refine ⟨rfl, rfl, ?_, ?_⟩ <;> ((repeat' (first | exact trivial | exact rfl | refine And.intro ?_ ?_)) <;> (try ((conv => whnf); first | refine vint ?_ | refine vboo ?_ | refine rint ?_ | refine rrow ?_ | skip)) <;> (try first | omega | (simp; done) | ((repeat rw [flts_closed _ (by assumption)]); exact vws_closed _ (by assumption)))))
      all_goals first
        | (have hb := st1 (of_decide_eq_true h5); first | (show (i : Int) = ((bIx (exW (funG s m)) i : Nat) : Int); rw [hb]; done) | (show exW (funG s m) i = exW (funG s m) (bIx (exW (funG s m)) i); rw [hb]; done))
        | (obtain ⟨hb, h1⟩ := st2 (of_decide_eq_false h5); first | (show ((bIx (exW (funG s m)) (i - 1) : Nat) : Int) = ((bIx (exW (funG s m)) i : Nat) : Int); rw [hb]; done) | exact qM_same hb h1)
  · have h2 : ¬ i < 24 := by have := of_decide_eq_false h2; omega
    obtain rfl : i = 24 := by omega
    conv => whnf
    exact ⟨rfl, rfl⟩
end Go.Proofs.Ytgefdbihdliolaa
