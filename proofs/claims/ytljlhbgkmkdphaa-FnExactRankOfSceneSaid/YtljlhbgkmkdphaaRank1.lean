/- Ranks over two elements: the program's basis, and the reference's elimination. -/
import Derived.Test.YtljlhbgkmkdphaaRank0
namespace Go.Aw
theorem gmem {L : List Nat} {j : Nat} (h : j < L.length) : L.getD j 0 ∈ L := by
  rw [List.getD_eq_getElem?_getD, List.getElem?_eq_getElem h]; exact List.getElem_mem _
theorem memg {L : List Nat} {v : Nat} (h : v ∈ L) : ∃ j, j < L.length ∧ v = L.getD j 0 := by
  obtain ⟨j, hj, rfl⟩ := List.mem_iff_getElem.1 h
  exact ⟨j, hj, by simp [List.getD, hj]⟩
def redF (R : List Nat) (x n : Nat) : Nat := fo (fun x i => mnx x (R.getD i 0)) x n
def stpF (R : List Nat) (x : Nat) : List Nat := if redF R x R.length = 0 then R else R ++ [redF R x R.length]
def basF (M : List Nat) (n : Nat) : List Nat := fo (fun R i => stpF R (M.getD i 0)) [] n
theorem xlt {a b : Nat} (h : a < 4096) (h2 : b < 4096) : a ^^^ b < 4096 := Nat.xor_lt_two_pow (n := 12) h h2
theorem red_inv {R : List Nat} (hR : TriT R) (hl : ∀ v, v ∈ R → v < 4096) {x0 : Nat} (h0 : x0 < 4096) : ∀ n, n ≤ R.length →
    redF R x0 n < 4096 ∧ Sp R (redF R x0 n ^^^ x0) ∧ ∀ i, i < n → ∀ l, Top (R.getD i 0) l → (redF R x0 n).testBit l = false
  | 0, _ => ⟨h0, by show Sp R (x0 ^^^ x0); rw [Nat.xor_self]; exact Sp.zero R, fun i hi => absurd hi (Nat.not_lt_zero i)⟩
  | n + 1, hn => by
    obtain ⟨h1, h2, h3⟩ := red_inv hR hl h0 n (by omega)
    have hm := gmem (L := R) (j := n) (by omega)
    have e : redF R x0 (n + 1) = mnx (redF R x0 n) (R.getD n 0) := rfl
    rw [e]
    refine ⟨?_, ?_, fun i hi l hl' => ?_⟩
    · rcases mnx_or (redF R x0 n) (R.getD n 0) with e | e <;> rw [e]
      · exact h1
      · exact xlt h1 (hl _ hm)
    · rcases mnx_or (redF R x0 n) (R.getD n 0) with e | e <;> rw [e]
      · exact h2
      · rw [xswap]; exact h2.xor (Sp.mem hm)
    · by_cases hin : i = n
      · subst hin; exact mnx_bit hl'
      · have h4 := h3 i (by omega) l hl'
        have h5 := hR.at_ (i := i) (j := n) (by omega) (by omega) l hl'
        rcases mnx_or (redF R x0 n) (R.getD n 0) with e | e <;> rw [e]
        · exact h4
        · rw [Nat.testBit_xor, h4, h5]; rfl
structure InvI (M R : List Nat) (n : Nat) : Prop where
  tri : TriT R
  sp : ∀ x, Sp R x ↔ Sp (M.take n) x
  lt : ∀ v, v ∈ R → v < 4096
  len : R.length ≤ n
theorem stp_inv {M R : List Nat} {n : Nat} (h : InvI M R n) (hn : n < M.length) (hM : ∀ v, v ∈ M → v < 4096) : InvI M (stpF R (M.getD n 0)) (n + 1) := by
  have hx := hM _ (gmem hn)
  obtain ⟨h1, h2, h3⟩ := red_inv h.tri h.lt hx R.length (Nat.le_refl _)
  have et : M.take (n + 1) = M.take n ++ [M.getD n 0] := by
    rw [List.take_succ_eq_append_getElem hn]; simp [List.getD, hn]
  have i1 : ∀ v, Sp (M.take n) v → Sp (M.take (n + 1)) v := fun v hv => Sp.sub (fun u hu => Sp.mem (by rw [et]; simp [hu])) hv
  have i2 : Sp (M.take (n + 1)) (M.getD n 0) := Sp.mem (by rw [et]; simp)
  unfold stpF
  by_cases h0 : redF R (M.getD n 0) R.length = 0
  · rw [if_pos h0]
    rw [h0, Nat.zero_xor] at h2
    refine ⟨h.tri, Sp.same (fun v hv => i1 v ((h.sp v).1 (Sp.mem hv))) (fun v hv => ?_), h.lt, Nat.le_succ_of_le h.len⟩
    rw [et] at hv
    rcases List.mem_append.1 hv with hv | hv
    · exact (h.sp v).2 (Sp.mem hv)
    · rw [List.mem_singleton.1 hv]; exact h2
  · rw [if_neg h0]
    refine ⟨h.tri.push h0 (fun v hv l hl => ?_), Sp.same (fun v hv => ?_) (fun v hv => ?_), fun v hv => ?_, by simp; exact h.len⟩
    · obtain ⟨j, hj, rfl⟩ := memg hv
      exact h3 j hj l hl
    · rcases List.mem_append.1 hv with hv | hv
      · exact i1 v ((h.sp v).1 (Sp.mem hv))
      · rw [List.mem_singleton.1 hv]
        have := (i1 _ ((h.sp _).1 h2)).xor i2
        rwa [xcan] at this
    · have j1 : ∀ u, Sp R u → Sp (R ++ [redF R (M.getD n 0) R.length]) u := fun u hu => Sp.sub (fun w hw => Sp.mem (by simp [hw])) hu
      rw [et] at hv
      rcases List.mem_append.1 hv with hv | hv
      · exact j1 v ((h.sp v).2 (Sp.mem hv))
      · rw [List.mem_singleton.1 hv]
        have := (j1 _ h2).xor (Sp.mem (v := redF R (M.getD n 0) R.length) (by simp))
        rwa [xswap, Nat.xor_self, Nat.zero_xor] at this
    · rcases List.mem_append.1 hv with hv | hv
      · exact h.lt v hv
      · rw [List.mem_singleton.1 hv]; exact h1
theorem bas_inv {M : List Nat} (hM : ∀ v, v ∈ M → v < 4096) : ∀ n, n ≤ M.length → InvI M (basF M n) n
  | 0, _ => ⟨trivial, fun _ => Iff.rfl, fun v hv => by simp [basF, fo] at hv, Nat.le_refl _⟩
  | n + 1, hn => stp_inv (bas_inv hM n (by omega)) hn hM

/-- the reference's elimination -/
structure InvS (M : List Nat) (e ev rank : Nat) (l : List Nat) : Prop where
  len : l.length = M.length
  rk : rank ≤ M.length
  re : rank ≤ ev
  sp : ∀ x, Sp l x ↔ Sp M x
  lt : ∀ j, j < l.length → l.getD j 0 < 4096 ∧ ∀ b, e ≤ b → (l.getD j 0).testBit b = false
  piv : ∃ piv : Nat → Nat, ∀ i, i < rank → (l.getD i 0).testBit (piv i) = true ∧ ∀ j, i < j → j < l.length → (l.getD j 0).testBit (piv i) = false
  low : ∀ j, rank ≤ j → j < l.length → ∀ b, b < ev → (l.getD j 0).testBit b = false
theorem InvS.start {M : List Nat} {e : Nat} (hM : ∀ v, v ∈ M → v < 4096 ∧ ∀ b, e ≤ b → v.testBit b = false) : InvS M e 0 0 M :=
  ⟨rfl, Nat.zero_le _, Nat.le_refl _, fun _ => Iff.rfl, fun j hj => hM _ (gmem hj), ⟨fun _ => 0, fun i hi => absurd hi (Nat.not_lt_zero i)⟩, fun _ _ _ b hb => absurd hb (Nat.not_lt_zero b)⟩
theorem InvS.none {M l : List Nat} {e ev rank : Nat} (h : InvS M e ev rank l) (hk : ∀ j, rank ≤ j → j < l.length → (l.getD j 0).testBit ev = false) : InvS M e (ev + 1) rank l :=
  ⟨h.len, h.rk, Nat.le_succ_of_le h.re, h.sp, h.lt, h.piv, fun j h1 h2 b hb => by
    by_cases hb2 : b = ev
    · rw [hb2]; exact hk j h1 h2
    · exact h.low j h1 h2 b (by omega)⟩
theorem InvS.fin {M l : List Nat} {e rank : Nat} (h : InvS M e e rank l) {B : List Nat} (hB : Tri B) (hs : ∀ x, Sp B x ↔ Sp M x) : rank = B.length := by
  have hlen := h.len
  have hrk := h.rk
  obtain ⟨piv, hp⟩ := h.piv
  have hA : Tri (l.take rank) := by
    refine tri_of_piv piv fun i hi => ?_
    have hi' : i < rank := by simp at hi; omega
    have gt : ∀ j, j < rank → (l.take rank).getD j 0 = l.getD j 0 := fun j hj => by simp [List.getD, List.getElem?_take, hj]
    refine ⟨by rw [gt i hi']; exact (hp i hi').1, fun j hij hj => ?_⟩
    have hj' : j < rank := by simp at hj; omega
    rw [gt j hj']
    exact (hp i hi').2 j hij (by omega)
  have := rank_eq hA hB (fun x => Iff.trans (Sp.same (fun v hv => Sp.mem (List.mem_of_mem_take hv)) (fun v hv => ?_) x) (Iff.trans (h.sp x) (hs x).symm))
  · rw [← this]; simp; omega
  · obtain ⟨j, hj, rfl⟩ := memg hv
    by_cases hjr : j < rank
    · exact Sp.mem (by
        have : (l.take rank).getD j 0 = l.getD j 0 := by simp [List.getD, List.getElem?_take, hjr]
        rw [← this]; exact gmem (by simp; omega))
    · have e0 : l.getD j 0 = 0 := Nat.eq_of_testBit_eq fun b => by
        rw [Nat.zero_testBit]
        by_cases hb : b < e
        · exact h.low j (by omega) hj b hb
        · exact (h.lt j hj).2 b (by omega)
      rw [e0]; exact Sp.zero _
theorem getD_set {l : List Nat} {k j v : Nat} (hk : k < l.length) : (l.set k v).getD j 0 = if j = k then v else l.getD j 0 := by
  by_cases h : j = k
  · subst h; simp [List.getD, hk]
  · simp [List.getD, List.getElem?_set, Ne.symm h, h]
/-- while a row is taken from those below -/
structure InvC (M : List Nat) (e ev rank i row : Nat) (l : List Nat) : Prop where
  inv : InvS M e ev rank l
  rl : rank < l.length
  rowE : l.getD rank 0 = row
  bit : row.testBit ev = true
  ri : rank < i
  cl : ∀ j, rank < j → j < i → j < l.length → (l.getD j 0).testBit ev = false
theorem InvS.swap {M l : List Nat} {e ev rank k : Nat} (h : InvS M e ev rank l) (h1 : rank ≤ k) (h2 : k < l.length) (hb : (l.getD k 0).testBit ev = true) :
    InvC M e ev rank (rank + 1) (l.getD k 0) ((l.set k (l.getD rank 0)).set rank (l.getD k 0)) := by
  have hr : rank < l.length := by omega
  have g : ∀ j, ((l.set k (l.getD rank 0)).set rank (l.getD k 0)).getD j 0 = l.getD (if j = rank then k else if j = k then rank else j) 0 := fun j => by
    rw [getD_set (by simp; exact hr), getD_set h2]
    split
    · rfl
    · split <;> rfl
  have gl : ∀ j, j < l.length → (if j = rank then k else if j = k then rank else j) < l.length := fun j hj => by
    split
    · exact h2
    · split
      · exact hr
      · exact hj
  have glen : ((l.set k (l.getD rank 0)).set rank (l.getD k 0)).length = l.length := by simp
  refine ⟨⟨by rw [glen]; exact h.len, h.rk, h.re, fun x => ?_, fun j hj => ?_, ?_, fun j h3 h4 b hb => ?_⟩, by rw [glen]; exact hr, ?_, hb, Nat.lt_succ_self _, fun j h3 h4 => by omega⟩
  · refine Iff.trans (Sp.same (fun v hv => ?_) (fun v hv => ?_) x) (h.sp x)
    · obtain ⟨j, hj, rfl⟩ := memg hv
      rw [glen] at hj
      rw [g j]; exact Sp.mem (gmem (gl j hj))
    · obtain ⟨j, hj, rfl⟩ := memg hv
      have hj' := gl j hj
      have e1 : l.getD j 0 = ((l.set k (l.getD rank 0)).set rank (l.getD k 0)).getD (if j = rank then k else if j = k then rank else j) 0 := by
        rw [g]
        congr 1
        by_cases a1 : j = rank
        · subst a1; by_cases a2 : k = j <;> simp [a2]
        · by_cases a2 : j = k <;> simp [a1, a2]
      rw [e1]; exact Sp.mem (gmem (by rw [glen]; exact hj'))
  · rw [glen] at hj; rw [g j]; exact h.lt _ (gl j hj)
  · obtain ⟨piv, hp⟩ := h.piv
    refine ⟨piv, fun i hi => ⟨?_, fun j hij hj => ?_⟩⟩
    · rw [g i, if_neg (by omega), if_neg (by omega)]; exact (hp i hi).1
    · rw [glen] at hj; rw [g j]
      refine (hp i hi).2 _ ?_ (gl j hj)
      split
      · omega
      · split <;> omega
  · rw [glen] at h4
    rw [g j]
    refine h.low _ ?_ (gl j h4) b hb
    split
    · omega
    · split <;> omega
  · rw [g rank, if_pos rfl]
theorem InvC.skip {M l : List Nat} {e ev rank i row : Nat} (h : InvC M e ev rank i row l) (hb : (l.getD i 0).testBit ev = false) : InvC M e ev rank (i + 1) row l :=
  ⟨h.inv, h.rl, h.rowE, h.bit, Nat.lt_succ_of_lt h.ri, fun j h1 h2 h3 => by
    by_cases hj : j = i
    · rw [hj]; exact hb
    · exact h.cl j h1 (by omega) h3⟩
theorem InvC.clear {M l : List Nat} {e ev rank i row : Nat} (h : InvC M e ev rank i row l) (hi : i < l.length) (hb : (l.getD i 0).testBit ev = true) : InvC M e ev rank (i + 1) row (l.set i (l.getD i 0 ^^^ row)) := by
  have hri := h.ri
  have g : ∀ j, (l.set i (l.getD i 0 ^^^ row)).getD j 0 = if j = i then l.getD i 0 ^^^ row else l.getD j 0 := fun j => getD_set hi
  have glen : (l.set i (l.getD i 0 ^^^ row)).length = l.length := by simp
  have hrow : Sp l row := by rw [← h.rowE]; exact Sp.mem (gmem h.rl)
  have grow : (l.set i (l.getD i 0 ^^^ row)).getD rank 0 = row := by rw [g, if_neg (by omega)]; exact h.rowE
  have row_low : ∀ b, b < ev → row.testBit b = false := fun b hb => by rw [← h.rowE]; exact h.inv.low rank (Nat.le_refl _) h.rl b hb
  refine ⟨⟨by rw [glen]; exact h.inv.len, h.inv.rk, h.inv.re, fun x => ?_, fun j hj => ?_, ?_, fun j h3 h4 b hb' => ?_⟩, by rw [glen]; exact h.rl, grow, h.bit, Nat.lt_succ_of_lt h.ri, fun j h3 h4 h5 => ?_⟩
  · refine Iff.trans (Sp.same (fun v hv => ?_) (fun v hv => ?_) x) (h.inv.sp x)
    · obtain ⟨j, hj, rfl⟩ := memg hv
      rw [glen] at hj
      rw [g j]
      split
      · exact (Sp.mem (gmem hi)).xor hrow
      · exact Sp.mem (gmem hj)
    · obtain ⟨j, hj, rfl⟩ := memg hv
      have hrow2 : Sp (l.set i (l.getD i 0 ^^^ row)) row := by rw (config := {occs := .pos [2]}) [← grow]; exact Sp.mem (gmem (by rw [glen]; exact h.rl))
      by_cases hji : j = i
      · subst hji
        have hm : Sp (l.set j (l.getD j 0 ^^^ row)) (l.getD j 0 ^^^ row) := by
          have := Sp.mem (gmem (L := l.set j (l.getD j 0 ^^^ row)) (j := j) (by rw [glen]; exact hi))
          rwa [g j, if_pos rfl] at this
        have := hm.xor hrow2
        rwa [xcan] at this
      · have := Sp.mem (gmem (L := l.set i (l.getD i 0 ^^^ row)) (j := j) (by rw [glen]; exact hj))
        rwa [g j, if_neg hji] at this
  · rw [glen] at hj
    rw [g j]
    have r1 := h.inv.lt rank h.rl
    rw [h.rowE] at r1
    split
    · have i1 := h.inv.lt i hi
      exact ⟨xlt i1.1 r1.1, fun b hb => by rw [Nat.testBit_xor, i1.2 b hb, r1.2 b hb]; rfl⟩
    · exact h.inv.lt j hj
  · obtain ⟨piv, hp⟩ := h.inv.piv
    refine ⟨piv, fun i' hi' => ⟨?_, fun j hij hj => ?_⟩⟩
    · rw [g i', if_neg (by omega)]; exact (hp i' hi').1
    · rw [glen] at hj; rw [g j]
      split
      · have q1 := (hp i' hi').2 i (by omega) hi
        have q2 := (hp i' hi').2 rank (by omega) h.rl
        rw [h.rowE] at q2
        rw [Nat.testBit_xor, q1, q2]; rfl
      · exact (hp i' hi').2 j hij hj
  · rw [glen] at h4
    rw [g j]
    split
    · rw [Nat.testBit_xor, h.inv.low i (by omega) hi b hb', row_low b hb']; rfl
    · exact h.inv.low j h3 h4 b hb'
  · rw [glen] at h5
    rw [g j]
    split
    · rw [Nat.testBit_xor, hb, h.bit]; rfl
    · exact h.cl j h3 (by omega) h5
theorem InvC.next {M l : List Nat} {e ev rank i row : Nat} (h : InvC M e ev rank i row l) (hi : l.length ≤ i) : InvS M e (ev + 1) (rank + 1) l := by
  have hl := h.inv.len
  have hrl := h.rl
  refine ⟨hl, by omega, by have := h.inv.re; omega, h.inv.sp, h.inv.lt, ?_, fun j h1 h2 b hb => ?_⟩
  · obtain ⟨piv, hp⟩ := h.inv.piv
    refine ⟨fun i => if i = rank then ev else piv i, fun i' hi' => ?_⟩
    by_cases e1 : i' = rank
    · subst e1
      dsimp only
      rw [if_pos rfl, h.rowE]
      exact ⟨h.bit, fun j hij hj => h.cl j hij (by omega) hj⟩
    · dsimp only
      rw [if_neg e1]
      exact hp i' (by omega)
  · by_cases hb2 : b = ev
    · rw [hb2]; exact h.cl j (by omega) (by omega) h2
    · exact h.inv.low j (by omega) h2 b (by omega)
end Go.Aw
