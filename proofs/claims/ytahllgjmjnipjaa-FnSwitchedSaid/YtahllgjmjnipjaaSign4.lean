/- SwitchSigns and SignFunctional, program and reference. -/
import Derived.Test.YtahllgjmjnipjaaSign3
namespace Go.Proofs.Ytahllgjmjnipjaa
open Go.Aw
set_option maxRecDepth 100000

def switchOk (m : List (List Int)) (r p : List Int) : Bool := goodM m && areS r m.length && areS p (m.getD 0 []).length
def switchRes (m : List (List Int)) (r p : List Int) : List (List Int) := if switchOk m r p then switchR m r p else []

theorem switchOk_pre {m : List (List Int)} {r p : List Int} (h : switchOk m r p = true) : m.length ≤ 1000 ∧ m.length ≤ r.length ∧ (∀ q, q ∈ m → q.length ≤ p.length) ∧ p.length ≤ 1000 := by
  simp only [switchOk, areS, Bool.and_eq_true, decide_eq_true_eq] at h
  obtain ⟨⟨h1, _, h2⟩, _, h3⟩ := h
  obtain ⟨g1, g2, g3, g4, g5⟩ := goodM_spec h1
  exact ⟨by omega, by omega, fun q hq => by have := (g5 q hq).1; omega, by omega⟩

theorem SwitchSigns_s (m : List (List Int)) (hm : OkM m) (_km : SzM m) (r : List Int) (_hr : OkI r) (kr : SzI r) (p : List Int) (_hp : OkI p) (kp : SzI p) :
    FSpec Try.prog 21 [.t (.rows m), .t (.ints .i64 r), .t (.ints .i64 p)] (ex (.tu [.own 0, .c (.bool (switchOk m r p))]) [(0, .rows 34 3 true (switchRes m r p))]) := by
  unfold SzI at kr kp
  refine fspec tyOk mx Try.func21 rfl (by kernel_rfl) rfl ?_
  conv => whnf
  refine ACall.use (l5Good_spec m hm.1 hm.len) ?_
  refine ⟨fun h => ?_, fun h => ?_⟩
  · have hg : goodM m = true := by simpa using h
    obtain ⟨g1, g2, g3, g4, g5⟩ := goodM_spec hg
    conv => whnf
    refine ACall.use (l5Are_spec r m.length (by omega)) ?_
    conv => whnf
    refine ⟨fun h2 => ?_, fun h2 => ?_⟩
    · conv => whnf
      refine ⟨0, rfl, by omega, ?_⟩
      conv => whnf
      refine ACall.use (l5Are_spec p (m.getD 0 []).length (by omega)) ?_
      conv => whnf
      refine ⟨fun h3 => ?_, fun h3 => ?_⟩
      · have hok : switchOk m r p = false := by
          have : areS p (m.getD 0 []).length = false := by simpa using h3
          simp only [switchOk, this, Bool.and_false]
        conv => whnf
        refine ⟨?_, ?_⟩
        · rw [hok]
        · rw [switchRes, hok]; rfl
      · have hok : switchOk m r p = true := by
          have a1 : areS p (m.getD 0 []).length = true := by simpa using h3
          have a2 : areS r m.length = true := by simpa using h2
          simp only [switchOk, hg, a1, a2, Bool.and_true]
        obtain ⟨p1, p2, p3, p4⟩ := switchOk_pre hok
        conv => whnf
        refine ACall.use (l5Switch_spec m r p p1 p2 p3 p4) ?_
        conv => whnf
        refine ⟨?_, ?_⟩
        · rw [hok]
        · rw [switchRes, hok]; rfl
    · have hok : switchOk m r p = false := by
        have : areS r m.length = false := by simpa using h2
        simp only [switchOk, this, Bool.and_false, Bool.false_and]
      conv => whnf
      first | refine ⟨fun h => absurd h (by decide), fun _ => ?_⟩ | refine ⟨fun _ => ?_, fun h => absurd h (by decide)⟩
      conv => whnf
      refine ⟨?_, ?_⟩
      · rw [hok]
      · rw [switchRes, hok]; rfl
  · have hg : goodM m = false := by simpa using h
    have hok : switchOk m r p = false := by simp only [switchOk, hg, Bool.false_and]
    conv => whnf
    first | refine ⟨fun h => absurd h (by decide), fun _ => ?_⟩ | refine ⟨fun _ => ?_, fun h => absurd h (by decide)⟩
    conv => whnf
    first | refine ⟨fun h => absurd h (by decide), fun _ => ?_⟩ | refine ⟨fun _ => ?_, fun h => absurd h (by decide)⟩
    conv => whnf
    refine ⟨?_, ?_⟩
    · rw [hok]
    · rw [switchRes, hok]; rfl


theorem SwitchSigns_bd (m : List (List Int)) (_hm : OkM m) (_km : SzM m) (r : List Int) (_hr : OkI r) (_kr : SzI r) (p : List Int) (_hp : OkI p) (_kp : SzI p) : (switchRes m r p).length ≤ 1000000 ∧ tot (switchRes m r p) ≤ 1000000 := by
  unfold switchRes
  split
  · rename_i h
    obtain ⟨p1, p2, p3, p4⟩ := switchOk_pre h
    have h1 : (switchR m r p).length = m.length := by simp [switchR]
    have h2 := tot_le_mul (m := switchR m r p) (n := 1000) (fun q hq => by
      obtain ⟨x, hx, rfl⟩ := List.mem_map.1 hq
      have hx := List.mem_range.1 hx
      have := p3 _ (getD_mem (d := []) hx)
      simp only [swRow, List.length_map, List.length_range]; omega)
    rw [h1] at h2
    have := Nat.mul_le_mul_right 1000 p1
    omega
  · simp [tot]
end Go.Proofs.Ytahllgjmjnipjaa
