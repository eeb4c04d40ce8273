/- FirstSwitched and AreSwitched, program and reference. -/
import Derived.Test.YtahllgjmjnipjaaFirst2
namespace Go.Proofs.Ytahllgjmjnipjaa
open Go.Aw
set_option maxRecDepth 100000

def firstRes (m : List (List Int)) : List (List Int) := if goodM m then firstF m else []
theorem firstF_shp (m : List (List Int)) : Shp (firstF m) m := fOut_shp m _

theorem FirstSwitched_s (m : List (List Int)) (hm : OkM m) (_km : SzM m) :
    FSpec Try.prog 10 [.t (.rows m)] (ex (.tu [.own 0, .c (.bool (goodM m))]) [(0, .rows 34 3 true (firstRes m))]) := by
  refine fspec tyOk mx Try.func10 rfl (by kernel_rfl) rfl ?_
  conv => whnf
  refine ACall.use (l5Good_spec m hm.1 hm.len) ?_
  refine ⟨fun h => ?_, fun h => ?_⟩
  · have hg : goodM m = false := by simpa using h
    conv => whnf
    exact ⟨by rw [hg], by rw [firstRes, hg]; rfl⟩
  · have hg : goodM m = true := by simpa using h
    conv => whnf
    refine ACall.use (l5First_spec m hg) ?_
    conv => whnf
    exact ⟨by rw [hg], by rw [firstRes, hg]; rfl⟩

theorem FirstSwitched_i (m : List (List Int)) (hm : OkM m) (_km : SzM m) :
    FSpec Try.prog 9 [.t (.rows m)] (ex (.tu [.own 0, .c (.bool (goodM m))]) [(0, .rows 34 3 true (firstRes m))]) := by
  refine view_rows ?_
  refine fspec tyOk mx Try.func9 rfl (by kernel_rfl) rfl ?_
  conv => whnf
  refine ACall.use (iIsSignGame_spec m hm.1 hm.len) ?_
  refine ⟨fun h => ?_, fun h => ?_⟩
  · have hg : goodM m = false := by simpa using h
    conv => whnf
    exact .inl ⟨hg, rfl, rfl⟩
  · have hg : goodM m = true := by simpa using h
    conv => whnf
    refine ACall.use (firstSwitched_spec m hg) ?_
    conv => whnf
    exact .inr ⟨hg, rfl, rfl⟩

theorem FirstSwitched_bd (m : List (List Int)) (_hm : OkM m) (_km : SzM m) : (firstRes m).length ≤ 1000000 ∧ tot (firstRes m) ≤ 1000000 := by
  unfold firstRes
  split
  · rename_i h
    have hs := firstF_shp m
    obtain ⟨k1, k2⟩ := g_rows h
    have h2 := tot_le_mul (m := firstF m) (n := 3) (hs.rows k2)
    have h3 := hs.1
    have : (firstF m).length * 3 ≤ 3 * 3 := Nat.mul_le_mul_right 3 (by omega)
    omega
  · simp [tot]

def areSw (m n : List (List Int)) : Bool := goodM m && goodM n && decide (cmpL (firstF m) (firstF n) = 0)
theorem AreSwitched_i (m : List (List Int)) (hm : OkM m) (_km : SzM m) (n : List (List Int)) (hn : OkM n) (_kn : SzM n) :
    FSpec Try.prog 7 [.t (.rows m), .t (.rows n)] (ex (.tu [.c (.bool (areSw m n)), .c (.bool (goodM m && goodM n))]) []) := by
  refine fspec tyOk mx Try.func7 rfl (by kernel_rfl) rfl ?_
  conv => whnf
  refine ACall.use (iIsSignGame_spec m hm.1 hm.len) ?_
  refine ⟨fun h => ?_, fun h => ?_⟩
  · have hg : goodM m = true := by simpa using h
    conv => whnf
    refine ACall.use (iIsSignGame_spec n hn.1 hn.len) ?_
    conv => whnf
    refine ⟨fun h2 => ?_, fun h2 => ?_⟩
    · have hg2 : goodM n = false := by simpa using h2
      conv => whnf
      exact ⟨by simp [areSw, hg, hg2], rfl⟩
    · have hg2 : goodM n = true := by simpa using h2
      obtain ⟨k1, k2⟩ := g_rows hg
      obtain ⟨k3, k4⟩ := g_rows hg2
      have s1 := firstF_shp m
      have s2 := firstF_shp n
      have q1 := s1.1
      have q2 := s2.1
      conv => whnf
      refine ACall.use (firstSwitched_spec m hg) ?_
      conv => whnf
      refine ACall.use (firstSwitched_spec n hg2) ?_
      conv => whnf
      refine ACall.use (compareLists_spec (firstF m) (firstF n) (by omega) (by omega) (fun r hr => by have := s1.rows k2 r hr; omega) (fun r hr => by have := s2.rows k4 r hr; omega)) ?_
      conv => whnf
      exact ⟨by simp only [areSw, hg, hg2, Bool.true_and]; rfl, rfl⟩
  · have hg : goodM m = false := by simpa using h
    conv => whnf
    first | refine ⟨fun h => absurd h (by decide), fun _ => ?_⟩ | refine ⟨fun _ => ?_, fun h => absurd h (by decide)⟩
    conv => whnf
    exact ⟨by simp [areSw, hg], rfl⟩

theorem areSw_less {m n : List (List Int)} : (!decide (cmpL (firstF m) (firstF n) < 0) && !decide (cmpL (firstF n) (firstF m) < 0)) = decide (cmpL (firstF m) (firstF n) = 0) := by
  have h := cmpL_neg (firstF m) (firstF n)
  rw [h]
  generalize cmpL (firstF m) (firstF n) = v
  by_cases h1 : v < 0
  · simp [h1]; omega
  · by_cases h2 : 0 < v
    · simp [h1, h2]; omega
    · simp [h1, h2]; omega
theorem areSw_shp {m n : List (List Int)} (h : ¬ (m.length = n.length ∧ (m.getD 0 []).length = (n.getD 0 []).length)) : decide (cmpL (firstF m) (firstF n) = 0) = false := by
  refine decide_eq_false fun e => h ?_
  have e := cmpL_zero e
  have s1 := firstF_shp m
  have s2 := firstF_shp n
  rw [e] at s1
  exact ⟨s1.1.symm.trans s2.1, (s1.2 0).symm.trans (s2.2 0)⟩
theorem good_shp {m n : List (List Int)} (hm : goodM m = true) (hn : goodM n = true) (h1 : m.length = n.length) (h2 : (m.getD 0 []).length = (n.getD 0 []).length) : Shp m n := by
  obtain ⟨_, _, _, _, g5⟩ := goodM_spec hm
  obtain ⟨_, _, _, _, k5⟩ := goodM_spec hn
  refine ⟨h1, fun x => ?_⟩
  by_cases h : x < m.length
  · rw [(g5 _ (getD_mem h)).1, (k5 _ (getD_mem (by omega))).1, h2]
  · simp [List.getD, h, show ¬ x < n.length by omega]

theorem AreSwitched_s (m : List (List Int)) (hm : OkM m) (_km : SzM m) (n : List (List Int)) (hn : OkM n) (_kn : SzM n) :
    FSpec Try.prog 8 [.t (.rows m), .t (.rows n)] (ex (.tu [.c (.bool (areSw m n)), .c (.bool (goodM m && goodM n))]) []) := by
  refine fspec tyOk mx Try.func8 rfl (by kernel_rfl) rfl ?_
  conv => whnf
  refine ACall.use (l5Good_spec m hm.1 hm.len) ?_
  refine ⟨fun h => ?_, fun h => ?_⟩
  · have hg : goodM m = true := by simpa using h
    conv => whnf
    refine ACall.use (l5Good_spec n hn.1 hn.len) ?_
    conv => whnf
    refine ⟨fun h2 => ?_, fun h2 => ?_⟩
    · have hg2 : goodM n = false := by simpa using h2
      conv => whnf
      exact ⟨by simp [areSw, hg, hg2], rfl⟩
    · have hg2 : goodM n = true := by simpa using h2
      obtain ⟨g1, g2, g3, g4, g5⟩ := goodM_spec hg
      obtain ⟨g1', g2', g3', g4', g5'⟩ := goodM_spec hg2
      obtain ⟨k1, k2⟩ := g_rows hg
      obtain ⟨k3, k4⟩ := g_rows hg2
      have s1 := firstF_shp m
      have s2 := firstF_shp n
      have q1 := s1.1
      have q2 := s2.1
      conv => whnf
      refine ADraw.std tyOk mx ⟨by kernel_rfl, fun h3 => ?_, fun h3 => ?_⟩
      · have h3 := eq_of_bne h3
        have h3 : m.length = n.length := by omega
        conv => whnf
        refine ⟨0, rfl, by omega, 0, rfl, by omega, ?_⟩
        conv => whnf
        refine ⟨fun h4 => ?_, fun h4 => ?_⟩
        · have h4 := ne_of_bne h4
          have e := areSw_shp (m := m) (n := n) (fun e => h4 (by omega))
          conv => whnf
          exact ⟨by simp only [areSw, hg, hg2, Bool.true_and, e], rfl⟩
        · have h4 := eq_of_bne h4
          have sh := good_shp hg hg2 h3 (by omega)
          conv => whnf
          refine ACall.use (l5First_spec m hg) ?_
          conv => whnf
          refine ACall.use (l5First_spec n hg2) ?_
          conv => whnf
          refine ACall.use (l5Less_spec (firstF m) (firstF n) (s1.trans (sh.trans s2.symm)) (by omega) (fun r hr => by have := s1.rows k2 r hr; omega)) ?_
          refine ⟨fun h5 => ?_, fun h5 => ?_⟩
          · conv => whnf
            refine ACall.use (l5Less_spec (firstF n) (firstF m) (s2.trans (sh.symm.trans s1.symm)) (by omega) (fun r hr => by have := s2.rows k4 r hr; omega)) ?_
            conv => whnf
            refine ⟨?_, rfl⟩
            have h5 : decide (cmpL (firstF m) (firstF n) < 0) = false := by simpa using h5
            simp only [areSw, hg, hg2, Bool.true_and]
            rw [← areSw_less, h5]; rfl
          · have h5 : decide (cmpL (firstF m) (firstF n) < 0) = true := by simpa using h5
            conv => whnf
            refine ⟨?_, rfl⟩
            simp only [areSw, hg, hg2, Bool.true_and]
            rw [← areSw_less, h5]; rfl
      · have h3 := ne_of_bne h3
        have e := areSw_shp (m := m) (n := n) (fun e => h3 (by omega))
        conv => whnf
        first | refine ⟨fun h => absurd h (by decide), fun _ => ?_⟩ | refine ⟨fun _ => ?_, fun h => absurd h (by decide)⟩
        conv => whnf
        exact ⟨by simp only [areSw, hg, hg2, Bool.true_and, e], rfl⟩
  · have hg : goodM m = false := by simpa using h
    conv => whnf
    first | refine ⟨fun h => absurd h (by decide), fun _ => ?_⟩ | refine ⟨fun _ => ?_, fun h => absurd h (by decide)⟩
    conv => whnf
    exact ⟨by simp [areSw, hg], rfl⟩
end Go.Proofs.Ytahllgjmjnipjaa
