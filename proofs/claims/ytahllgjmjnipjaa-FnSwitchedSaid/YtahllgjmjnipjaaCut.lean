/- CutOf, program and reference. -/
import Derived.Test.YtahllgjmjnipjaaSign8
namespace Go.Aw
theorem fo_eq_foldl {α : Type} (f : α → Nat → α) (a : α) : ∀ n, fo f a n = (List.range n).foldl f a
  | 0 => rfl
  | n + 1 => by rw [fo, fo_eq_foldl f a n, List.range_succ, List.foldl_append]; rfl
theorem perm_flatMap {α β : Type} {f g : α → List β} (h : ∀ a, (f a).Perm (g a)) : ∀ l : List α, (l.flatMap f).Perm (l.flatMap g)
  | [] => by simp
  | a :: l => by simp only [List.flatMap_cons]; exact (h a).append (perm_flatMap h l)
def bitOf (c : Int) (i : Nat) : Int := bits .and .i64 (shr .i64 c i) 1
def bitsI (n a : Nat) : List Int := (List.range n).map (bitOf a)
theorem bitsI_get {n a i : Nat} (h : i < n) : (bitsI n a).getD i 0 = bitOf a i := by simp [bitsI, List.getD, h]
end Go.Aw
namespace Go.Proofs.Ytahllgjmjnipjaa
open Go.Aw
set_option maxRecDepth 100000

def halfOf (s : Int) : Int := W (Int.tdiv (W (s + 1)) 2)
def halfL (l : List Int) : List Int := l.map halfOf
def cutStep (m : List (List Int)) (acc : Int) (r p : List Int) : Int := max (max acc (sumW m r p)) (W (0 - sumW m r p))
def cutIn (m : List (List Int)) (r : List Int) (P : Nat → List Int) (acc : Int) (b : Nat) : Int := fo (fun acc b => cutStep m acc r (P b)) acc b
def cutOut (m : List (List Int)) (R P : Nat → List Int) (nP : Nat) (a : Nat) : Int := fo (fun acc a => cutIn m (R a) P acc nP) 0 a

theorem cutIn_succ (m : List (List Int)) (r : List Int) (P : Nat → List Int) (acc : Int) (b : Nat) : cutIn m r P acc (b + 1) = cutStep m (cutIn m r P acc b) r (P b) := rfl
theorem sumRow_succ (r p : List Int) (c s : Int) (y : Nat) : sumRow r p c s (y + 1) = W (sumRow r p c s y + W (W (r.getD y 0 * c) * p.getD y 0)) := rfl
theorem max3 (a b c : Int) : max a (max b c) = max (max a b) c := by omega
theorem max3' (a b c : Int) : (if c > (if b > a then b else a) then c else (if b > a then b else a)) = max (max a b) c := by omega
theorem cutOut_list (m : List (List Int)) (R P : Nat → List Int) (nP nR : Nat) :
    cutOut m R P nP nR = (((List.range nR).map R).flatMap fun r => ((List.range nP).map P).map fun p => (r, p)).foldl (fun acc q => cutStep m acc q.1 q.2) 0 := by
  unfold cutOut
  rw [fo_eq_foldl, List.foldl_flatMap, List.foldl_map]
  refine congrArg (fun f => (List.range nR).foldl f 0) ?_
  funext acc a
  unfold cutIn
  rw [fo_eq_foldl, List.map_map, List.foldl_map]
  rfl

def cutBits (m : List (List Int)) : Int := cutOut m (bitsI m.length) (bitsI (m.getD 0 []).length) (2 ^ (m.getD 0 []).length) (2 ^ m.length)
def cutRef (m : List (List Int)) : Int := cutOut m (fun a => halfL ((sgR m).getD a [])) (fun b => halfL ((sgP m).getD b [])) (2 ^ (m.getD 0 []).length) (2 ^ m.length)

theorem half_perm (n : Nat) (h1 : 1 ≤ n) (h3 : n ≤ 3) : ((List.range (2 ^ n)).map (bitsI n)).Perm ((List.range (2 ^ n)).map fun a => halfL ((signsL n).getD a [])) := by
  have : n = 1 ∨ n = 2 ∨ n = 3 := by omega
  rcases this with rfl | rfl | rfl <;> decide +kernel

theorem cut_eq (m : List (List Int)) (hg : goodM m = true) : cutRef m = cutBits m := by
  obtain ⟨g1, g2, g3, g4, g5⟩ := goodM_spec hg
  unfold cutRef cutBits
  rw [cutOut_list, cutOut_list]
  refine (List.Perm.foldl_eq' ?_ ?_ 0).symm
  · exact ((half_perm _ g1 g2).flatMap_right _).trans (perm_flatMap (fun r => (half_perm _ g3 g4).map _) _)
  · intro x _ y _ z
    simp only [cutStep]
    omega
end Go.Proofs.Ytahllgjmjnipjaa
