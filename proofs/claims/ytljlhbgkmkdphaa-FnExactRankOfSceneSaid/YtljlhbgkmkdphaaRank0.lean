/- Ranks over two elements: spans of lists of masks, and two ways to a basis. -/
import Derived.Test.YtljlhbgkmkdphaaPlain
namespace Go.Aw
theorem xcan (x v : Nat) : (x ^^^ v) ^^^ v = x := by rw [Nat.xor_assoc, Nat.xor_self, Nat.xor_zero]
theorem xswap (x u v : Nat) : (x ^^^ u) ^^^ v = (x ^^^ v) ^^^ u := by rw [Nat.xor_assoc, Nat.xor_comm u v, ← Nat.xor_assoc]
def Sp : List Nat → Nat → Prop
  | [], x => x = 0
  | v :: L, x => Sp L x ∨ Sp L (x ^^^ v)
theorem Sp.zero : ∀ L, Sp L 0
  | [] => rfl
  | _ :: L => .inl (Sp.zero L)
theorem Sp.xor : ∀ {L : List Nat} {x y : Nat}, Sp L x → Sp L y → Sp L (x ^^^ y)
  | [], x, y, hx, hy => by
    have hx : x = 0 := hx
    have hy : y = 0 := hy
    subst hx hy; rfl
  | v :: L, x, y, hx, hy => by
    rcases hx with hx | hx <;> rcases hy with hy | hy
    · exact .inl (hx.xor hy)
    · refine .inr ?_
      have := hx.xor hy
      rwa [← Nat.xor_assoc] at this
    · refine .inr ?_
      have := hx.xor hy
      rwa [xswap] at this
    · refine .inl ?_
      have := hx.xor hy
      rwa [← Nat.xor_assoc, xswap x v y, xcan] at this
theorem Sp.mem : ∀ {L : List Nat} {v : Nat}, v ∈ L → Sp L v
  | u :: L, v, h => by
    rcases List.mem_cons.1 h with rfl | h
    · exact .inr (by rw [Nat.xor_self]; exact Sp.zero L)
    · exact .inl (Sp.mem h)
theorem Sp.sub {M : List Nat} : ∀ {L : List Nat} {x : Nat}, (∀ v, v ∈ L → Sp M v) → Sp L x → Sp M x
  | [], x, _, h => by have h : x = 0 := h; rw [h]; exact Sp.zero M
  | v :: L, x, hm, h => by
    have hm' : ∀ u, u ∈ L → Sp M u := fun u hu => hm u (by simp [hu])
    rcases h with h | h
    · exact Sp.sub hm' h
    · have := (Sp.sub hm' h).xor (hm v (by simp))
      rwa [xcan] at this
theorem Sp.same {L M : List Nat} (h1 : ∀ v, v ∈ L → Sp M v) (h2 : ∀ v, v ∈ M → Sp L v) (x : Nat) : Sp L x ↔ Sp M x := ⟨Sp.sub h1, Sp.sub h2⟩
/-- no bit ℓ in the span, where none has it -/
theorem Sp.bit {l : Nat} : ∀ {L : List Nat} {x : Nat}, (∀ v, v ∈ L → v.testBit l = false) → Sp L x → x.testBit l = false
  | [], x, _, h => by have h : x = 0 := h; rw [h]; exact Nat.zero_testBit l
  | v :: L, x, hm, h => by
    have hm' : ∀ u, u ∈ L → u.testBit l = false := fun u hu => hm u (by simp [hu])
    rcases h with h | h
    · exact Sp.bit hm' h
    · have := Sp.bit hm' h
      rw [Nat.testBit_xor, hm v (by simp)] at this
      simpa using this
/-- all of the span -/
def en : List Nat → List Nat
  | [] => [0]
  | v :: L => en L ++ (en L).map (· ^^^ v)
theorem en_len : ∀ L, (en L).length = 2 ^ L.length
  | [] => rfl
  | v :: L => by rw [en, List.length_append, List.length_map, en_len L, List.length_cons, Nat.pow_succ]; omega
theorem en_mem : ∀ {L : List Nat} {x : Nat}, x ∈ en L ↔ Sp L x
  | [], x => by simp [en, Sp]
  | v :: L, x => by
    rw [en, List.mem_append, List.mem_map, en_mem]
    refine or_congr Iff.rfl ⟨?_, fun h => ⟨x ^^^ v, en_mem.2 h, xcan x v⟩⟩
    rintro ⟨y, hy, rfl⟩
    show Sp L ((y ^^^ v) ^^^ v)
    rw [xcan]
    exact en_mem.1 hy
/-- each has a bit of its own, that none behind it has -/
def Tri : List Nat → Prop
  | [] => True
  | v :: L => (∃ l, v.testBit l = true ∧ ∀ u, u ∈ L → u.testBit l = false) ∧ Tri L
theorem en_nodup : ∀ {L : List Nat}, Tri L → (en L).Nodup
  | [], _ => by simp [en]
  | v :: L, ⟨⟨l, h1, h2⟩, h3⟩ => by
    have ih := en_nodup h3
    refine List.nodup_append.2 ⟨ih, ?_, ?_⟩
    · refine (List.pairwise_map).2 (ih.imp fun hne e => hne ?_)
      have := congrArg (· ^^^ v) e
      simpa only [xcan] using this
    · intro a ha b hb e
      subst e
      obtain ⟨y, hy, rfl⟩ := List.mem_map.1 hb
      have e1 := Sp.bit h2 (en_mem.1 ha)
      have e2 := Sp.bit h2 (en_mem.1 hy)
      rw [Nat.testBit_xor, e2, h1] at e1
      simp at e1
theorem len_le_of_sub : ∀ {a b : List Nat}, a.Nodup → (∀ x, x ∈ a → x ∈ b) → a.length ≤ b.length
  | [], _, _, _ => Nat.zero_le _
  | x :: a, b, h, hs => by
    obtain ⟨h1, h2⟩ := List.nodup_cons.1 h
    have hx : x ∈ b := hs x (by simp)
    have ih := len_le_of_sub (b := b.erase x) h2 (fun y hy => (List.mem_erase_of_ne (fun e => h1 (by rw [← e]; exact hy))).2 (hs y (by simp [hy])))
    have hl := List.length_erase_of_mem hx
    have : 0 < b.length := List.length_pos_of_mem hx
    simp only [List.length_cons]
    omega
theorem pow_inj {a b : Nat} (h : 2 ^ a = 2 ^ b) : a = b := by
  rcases Nat.lt_trichotomy a b with h1 | h1 | h1
  · have := Nat.pow_lt_pow_right (a := 2) (by omega) h1; omega
  · exact h1
  · have := Nat.pow_lt_pow_right (a := 2) (by omega) h1; omega
theorem rank_eq {A B : List Nat} (hA : Tri A) (hB : Tri B) (h : ∀ x, Sp A x ↔ Sp B x) : A.length = B.length := by
  have h1 := len_le_of_sub (en_nodup hA) (fun x hx => en_mem.2 ((h x).1 (en_mem.1 hx)))
  have h2 := len_le_of_sub (en_nodup hB) (fun x hx => en_mem.2 ((h x).2 (en_mem.1 hx)))
  rw [en_len, en_len] at h1 h2
  exact pow_inj (Nat.le_antisymm h1 h2)
theorem lt_of_bit : ∀ {i n m : Nat}, n.testBit i = false → m.testBit i = true → (∀ j, i < j → n.testBit j = m.testBit j) → n < m
  | 0, n, m, h1, h2, h => by
    have e : n / 2 = m / 2 := Nat.eq_of_testBit_eq fun j => by rw [← Nat.testBit_succ, ← Nat.testBit_succ]; exact h (j + 1) (by omega)
    rw [Nat.testBit_zero] at h1 h2
    have h1 := of_decide_eq_false h1
    have h2 := of_decide_eq_true h2
    omega
  | i + 1, n, m, h1, h2, h => by
    rw [Nat.testBit_succ] at h1 h2
    have := lt_of_bit h1 h2 (fun j hj => by rw [← Nat.testBit_succ, ← Nat.testBit_succ]; exact h (j + 1) (by omega))
    omega
def Top (r l : Nat) : Prop := r.testBit l = true ∧ ∀ j, l < j → r.testBit j = false
theorem top_ex : ∀ (n r : Nat), r ≤ n → r ≠ 0 → ∃ l, Top r l
  | 0, r, h, h0 => absurd (Nat.le_zero.1 h) h0
  | n + 1, r, h, h0 => by
    by_cases h1 : r / 2 = 0
    · refine ⟨0, ?_, fun j hj => ?_⟩
      · rw [Nat.testBit_zero]; exact decide_eq_true (by omega)
      · obtain ⟨k, rfl⟩ : ∃ k, j = k + 1 := ⟨j - 1, by omega⟩
        rw [Nat.testBit_succ, h1]; exact Nat.zero_testBit k
    · obtain ⟨l, h2, h3⟩ := top_ex n (r / 2) (by omega) h1
      refine ⟨l + 1, by rw [Nat.testBit_succ]; exact h2, fun j hj => ?_⟩
      obtain ⟨k, rfl⟩ : ∃ k, j = k + 1 := ⟨j - 1, by omega⟩
      rw [Nat.testBit_succ]; exact h3 k (by omega)
def mnx (x r : Nat) : Nat := if x ^^^ r < x then x ^^^ r else x
theorem mnx_bit {x r l : Nat} (h : Top r l) : (mnx x r).testBit l = false := by
  unfold mnx
  cases hx : x.testBit l with
  | true =>
    have hl : (x ^^^ r).testBit l = false := by rw [Nat.testBit_xor, hx, h.1]; rfl
    rw [if_pos (lt_of_bit hl hx fun j hj => by rw [Nat.testBit_xor, h.2 j hj]; simp)]
    exact hl
  | false =>
    have hl : (x ^^^ r).testBit l = true := by rw [Nat.testBit_xor, hx, h.1]; rfl
    have : x < x ^^^ r := lt_of_bit hx hl fun j hj => by rw [Nat.testBit_xor, h.2 j hj]; simp
    rw [if_neg (by omega)]
    exact hx
theorem mnx_or (x r : Nat) : mnx x r = x ∨ mnx x r = x ^^^ r := by unfold mnx; split <;> simp
/-- the basis that the program keeps: top bits that none behind it has -/
def TriT : List Nat → Prop
  | [] => True
  | v :: L => (v ≠ 0 ∧ ∀ l, Top v l → ∀ u, u ∈ L → u.testBit l = false) ∧ TriT L
theorem TriT.tri : ∀ {L : List Nat}, TriT L → Tri L
  | [], _ => trivial
  | v :: L, ⟨⟨h0, h1⟩, h2⟩ => by
    obtain ⟨l, hl⟩ := top_ex v v (Nat.le_refl _) h0
    exact ⟨⟨l, hl.1, h1 l hl⟩, h2.tri⟩
theorem TriT.push {x : Nat} (hx : x ≠ 0) : ∀ {L : List Nat}, TriT L → (∀ v, v ∈ L → ∀ l, Top v l → x.testBit l = false) → TriT (L ++ [x])
  | [], _, _ => ⟨⟨hx, fun _ _ u hu => by simp at hu⟩, trivial⟩
  | v :: L, ⟨⟨h0, h1⟩, h2⟩, h => ⟨⟨h0, fun l hl u hu => by
      rcases List.mem_append.1 hu with hu | hu
      · exact h1 l hl u hu
      · rw [List.mem_singleton.1 hu]; exact h v (by simp) l hl⟩, h2.push hx (fun u hu => h u (by simp [hu]))⟩
theorem TriT.at_ {d : Nat} : ∀ {L : List Nat}, TriT L → ∀ {i j : Nat}, i < j → j < L.length → ∀ l, Top (L.getD i d) l → (L.getD j d).testBit l = false
  | v :: L, ⟨⟨_, h1⟩, _⟩, 0, j + 1, _, hj, l, hl => h1 l (by simpa using hl) _ (by
      have hj : j < L.length := by simpa using hj
      rw [List.getD_cons_succ, List.getD_eq_getElem?_getD, List.getElem?_eq_getElem hj]; exact List.getElem_mem _)
  | v :: L, ⟨_, h2⟩, i + 1, j + 1, hij, hj, l, hl => by
      rw [List.getD_cons_succ] at hl ⊢
      exact h2.at_ (by omega) (by simpa using hj) l hl
theorem tri_of_piv : ∀ {L : List Nat} (piv : Nat → Nat), (∀ i, i < L.length → (L.getD i 0).testBit (piv i) = true ∧ ∀ j, i < j → j < L.length → (L.getD j 0).testBit (piv i) = false) → Tri L
  | [], _, _ => trivial
  | v :: L, piv, h => by
    refine ⟨⟨piv 0, by simpa using (h 0 (by simp)).1, fun u hu => ?_⟩, tri_of_piv (fun i => piv (i + 1)) fun i hi => ⟨by simpa using (h (i + 1) (by simpa using hi)).1, fun j hij hj => by simpa using (h (i + 1) (by simpa using hi)).2 (j + 1) (by omega) (by simpa using hj)⟩⟩
    obtain ⟨j, hj, rfl⟩ := List.mem_iff_getElem.1 hu
    have := (h 0 (by simp)).2 (j + 1) (by omega) (by simpa using hj)
    simpa [List.getD, hj] using this
end Go.Aw
