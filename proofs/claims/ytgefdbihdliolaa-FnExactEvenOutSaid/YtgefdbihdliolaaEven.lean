/- Boxes that are evened out: what both make, and the parts that are walked. -/
import Derived.Test.YtgefdbihdliolaaRest
namespace Go.Aw
def revN (m : List (List Int)) (x y a b : Nat) : Int := (m.getD (x * 2 + y) []).getD (3 - (2 * a + b)) 0
def revM (m : List (List Int)) : List (List Int) := boxRows (revN m) 2 2
def eoN (m : List (List Int)) (x y a b : Nat) : Int := W ((m.getD (x * 2 + y) []).getD (2 * a + b) 0 + ((revM m).getD (x * 2 + y) []).getD (2 * a + b) 0)
def eoM (m : List (List Int)) : List (List Int) := boxRows (eoN m) 2 2
theorem sum4 (a b c d : Int) (h1 : 0 ≤ a ∧ a ≤ 2000) (h2 : 0 ≤ b ∧ b ≤ 2000) (h3 : 0 ≤ c ∧ c ≤ 2000) (h4 : 0 ≤ d ∧ d ≤ 2000) : sumF [a, b, c, d] 4 = a + b + c + d := by
  show W (W (W (W (0 + a) + b) + c) + d) = _
  have e : ∀ n : Int, 0 ≤ n → n ≤ 1000000 → W n = n := fun n h h' => w64 (by omega) (by omega)
  rw [e (0 + a) (by omega) (by omega), e (0 + a + b) (by omega) (by omega), e (0 + a + b + c) (by omega) (by omega), e (0 + a + b + c + d) (by omega) (by omega)]
  omega
theorem row4 {r : List Int} {z : Int} (hz : z ≤ 1000) (hl : r.length = 4) (hb : ∀ v, v ∈ r → 0 ≤ v ∧ v ≤ z) (hs : sumF r r.length = z) :
    ∃ a b c d : Int, r = [a, b, c, d] ∧ 0 ≤ a ∧ 0 ≤ b ∧ 0 ≤ c ∧ 0 ≤ d ∧ a + b + c + d = z := by
  match r, hl with
  | [a, b, c, d], _ =>
    have h1 := hb a (by simp)
    have h2 := hb b (by simp)
    have h3 := hb c (by simp)
    have h4 := hb d (by simp)
    have := sum4 a b c d (by omega) (by omega) (by omega) (by omega)
    exact ⟨a, b, c, d, rfl, h1.1, h2.1, h3.1, h4.1, by rw [← this]; exact hs⟩
end Go.Aw
namespace Go.Proofs.Ytgefdbihdliolaa
open Go.Aw
set_option maxRecDepth 100000
set_option maxHeartbeats 4000000

theorem rowOk_mk {a b c d z : Int} (ha : 0 ≤ a) (hb : 0 ≤ b) (hc : 0 ≤ c) (hd : 0 ≤ d) (hs : a + b + c + d = z) (hz : z ≤ 1000) : rowOk z [a, b, c, d] = true := by
  have h := sum4 a b c d (by omega) (by omega) (by omega) (by omega)
  unfold rowOk
  rw [show sumF [a, b, c, d] [a, b, c, d].length = a + b + c + d from h, hs]
  have : rowIn [a, b, c, d] 0 z = true := rowIn_iff.2 fun v hv => by
    simp only [List.mem_cons, List.not_mem_nil, or_false] at hv
    rcases hv with rfl | rfl | rfl | rfl <;> omega
  rw [this]; simp
theorem good4 {z : Int} {r0 r1 r2 r3 : List Int} (h1 : 1 ≤ z) (h2 : z ≤ 1000) (k0 : rowOk z r0 = true) (k1 : rowOk z r1 = true) (k2 : rowOk z r2 = true) (k3 : rowOk z r3 = true) : goodB 2 2 z [r0, r1, r2, r3] = true := by
  have hz : inR z 1 1000 = true := inR_iff.2 ⟨h1, h2⟩
  simp [goodB, hz, k0, k1, k2, k3]; rfl
theorem eo_good {x y z : Int} {m : List (List Int)} (h : pairB x y z m = true) : goodB 2 2 z (revM m) = true ∧ (z + z ≤ 1000 → goodB 2 2 (z + z) (eoM m) = true) := by
  obtain ⟨rfl, rfl, g1, g2, g3, g4⟩ := pairB_spec h
  match m, g3 with
  | [r0, r1, r2, r3], _ =>
    have q0 := g4 r0 (by simp)
    have q1 := g4 r1 (by simp)
    have q2 := g4 r2 (by simp)
    have q3 := g4 r3 (by simp)
    obtain ⟨a0, b0, c0, d0, rfl, u0, v0, w0, x0, s0⟩ := row4 g2 q0.1 q0.2.1 q0.2.2
    obtain ⟨a1, b1, c1, d1, rfl, u1, v1, w1, x1, s1⟩ := row4 g2 q1.1 q1.2.1 q1.2.2
    obtain ⟨a2, b2, c2, d2, rfl, u2, v2, w2, x2, s2⟩ := row4 g2 q2.1 q2.2.1 q2.2.2
    obtain ⟨a3, b3, c3, d3, rfl, u3, v3, w3, x3, s3⟩ := row4 g2 q3.1 q3.2.1 q3.2.2
    refine ⟨good4 (r0 := [d0, c0, b0, a0]) (r1 := [d1, c1, b1, a1]) (r2 := [d2, c2, b2, a2]) (r3 := [d3, c3, b3, a3]) g1 g2 (rowOk_mk x0 w0 v0 u0 (by omega) g2) (rowOk_mk x1 w1 v1 u1 (by omega) g2) (rowOk_mk x2 w2 v2 u2 (by omega) g2) (rowOk_mk x3 w3 v3 u3 (by omega) g2), fun hz => ?_⟩
    have e : ∀ n : Int, 0 ≤ n → n ≤ 1000000 → W n = n := fun n h h' => w64 (by omega) (by omega)
    have em : eoM [[a0, b0, c0, d0], [a1, b1, c1, d1], [a2, b2, c2, d2], [a3, b3, c3, d3]] = [[W (a0 + d0), W (b0 + c0), W (c0 + b0), W (d0 + a0)], [W (a1 + d1), W (b1 + c1), W (c1 + b1), W (d1 + a1)], [W (a2 + d2), W (b2 + c2), W (c2 + b2), W (d2 + a2)], [W (a3 + d3), W (b3 + c3), W (c3 + b3), W (d3 + a3)]] := rfl
    rw [em]
    refine good4 (by omega) hz ?_ ?_ ?_ ?_
    · rw [e (a0 + d0) (by omega) (by omega), e (b0 + c0) (by omega) (by omega), e (c0 + b0) (by omega) (by omega), e (d0 + a0) (by omega) (by omega)]
      exact rowOk_mk (by omega) (by omega) (by omega) (by omega) (by omega) hz
    · rw [e (a1 + d1) (by omega) (by omega), e (b1 + c1) (by omega) (by omega), e (c1 + b1) (by omega) (by omega), e (d1 + a1) (by omega) (by omega)]
      exact rowOk_mk (by omega) (by omega) (by omega) (by omega) (by omega) hz
    · rw [e (a2 + d2) (by omega) (by omega), e (b2 + c2) (by omega) (by omega), e (c2 + b2) (by omega) (by omega), e (d2 + a2) (by omega) (by omega)]
      exact rowOk_mk (by omega) (by omega) (by omega) (by omega) (by omega) hz
    · rw [e (a3 + d3) (by omega) (by omega), e (b3 + c3) (by omega) (by omega), e (c3 + b3) (by omega) (by omega), e (d3 + a3) (by omega) (by omega)]
      exact rowOk_mk (by omega) (by omega) (by omega) (by omega) (by omega) hz

theorem xor1 {a x : Nat} (ha : a < 2) (hx : x < 4) : bits .xor .i64 (a : Int) (([1, 1, 1, 1] : List Int).getD x 0) = ((1 - a : Nat) : Int) := by
  have : ∀ a : Nat, a < 2 → ∀ x : Nat, x < 4 → bits .xor .i64 (a : Int) (([1, 1, 1, 1] : List Int).getD x 0) = ((1 - a : Nat) : Int) := by decide +kernel
  exact this a ha x hx

theorem flN_spec (m : List (List Int)) (hm : m.length = 4) (h4 : ∀ r, r ∈ m → r.length = 4) (z : Int) (x y a b : Nat) (hx : x < 2) (hy : y < 2) (ha : a < 2) (hb : b < 2) :
    FSpec Try.prog 127 [.c (.int .i64 (x)), .c (.int .i64 (y)), .c (.int .i64 (a)), .c (.int .i64 (b)), .rp [.c (.int .i64 (2)), .c (.int .i64 (2)), .c (.int .i64 (z)), .t (.rows m)] 0, .rp [.t (.ints .i64 [1, 1, 1, 1])] 0] (ex (.c (.int .i64 (revN m x y a b))) []) := by
  have hr2 := h4 _ (getD_mem (d := []) (show x * 2 + y < m.length by omega))
  have e1 := xor1 (x := x) ha (by omega)
  have e2 := xor1 (x := 2 + y) hb (by omega)
  refine fspec tyOk mx Try.func127 rfl (by kernel_rfl) rfl ?_
  conv => whnf
  refine ADraw.plan tyOk mx (.q 0 (.q 1 (.q 2 (.q 3 (.q 4 (.q 5 (.q 6 (.q 7 (.q 8 (.q 9 (.q 10 (.q 11 (.q 12 (.q 13 (.q 14 (.q 15 (.q 16 (.q 17 (.last 18 (.q 19 (.done)))))))))))))))))))) : Plan) (by kernel_rfl) ?_
  conv => whnf
  refine ⟨x, rfl, (show x < 4 by omega), ?_⟩
  conv => whnf
  refine ⟨2 + y, by rw [show (2 : Int) + (y : Int) = ((2 + y : Nat) : Int) by omega]; exact w64 (by omega) (by omega), (show 2 + y < 4 by omega), ?_⟩
  conv => whnf
  rw [e1, e2]
  refine ACall.useR (at_spec 2 2 x y (1 - a) (1 - b) z m (by omega) (by omega) (by omega) (by omega)) ?_
  conv => whnf
  refine ⟨?_, rfl⟩
  rw [revN, show 3 - (2 * a + b) = 2 * (1 - a) + (1 - b) by omega]

theorem flipped_spec (m : List (List Int)) (hm : m.length = 4) (h4 : ∀ r, r ∈ m → r.length = 4) (z : Int) :
    FSpec Try.prog 90 [.ag [.c (.int .i64 (2)), .c (.int .i64 (2)), .c (.int .i64 (z)), .t (.rows m)], .t (.ints .i64 [1, 1, 1, 1])] (ex (.ag [.c (.int .i64 (2)), .c (.int .i64 (2)), .c (.int .i64 (z)), .own 0]) [(0, .rows 23 3 true (revM m))]) := by
  refine fspec tyOk mx Try.func90 rfl (by kernel_rfl) rfl ?_
  conv => whnf
  refine ACall.use (newBox_spec 2 2 z _ [.rp [.c (.int .i64 (2)), .c (.int .i64 (2)), .c (.int .i64 (z)), .t (.rows m)] 0, .rp [.t (.ints .i64 [1, 1, 1, 1])] 0] (revN m) (by omega) (by omega) (fun _ _ => rfl) rfl (fun i k' a b hi hk ha hb => flN_spec m hm h4 z i k' a b hi hk ha hb)) ?_
  conv => whnf
  exact ⟨rfl, rfl⟩

theorem eoN_spec (m : List (List Int)) (hm : m.length = 4) (h4 : ∀ r, r ∈ m → r.length = 4) (z z' : Int) (x y a b : Nat) (hx : x < 2) (hy : y < 2) (ha : a < 2) (hb : b < 2) :
    FSpec Try.prog 126 [.c (.int .i64 (x)), .c (.int .i64 (y)), .c (.int .i64 (a)), .c (.int .i64 (b)), .rp [.c (.int .i64 (2)), .c (.int .i64 (2)), .c (.int .i64 (z)), .t (.rows m)] 0, .rp [.c (.int .i64 (2)), .c (.int .i64 (2)), .c (.int .i64 (z')), .t (.rows (revM m))] 0] (ex (.c (.int .i64 (eoN m x y a b))) []) := by
  have hl : (revM m).length = 4 := boxRows_len _ 2 2
  have hr := boxRows_rows (revN m) 2 2 _ (getD_mem (d := []) (show x * 2 + y < (revM m).length by omega))
  have hr2 := h4 _ (getD_mem (d := []) (show x * 2 + y < m.length by omega))
  refine fspec tyOk mx Try.func126 rfl (by kernel_rfl) rfl ?_
  conv => whnf
  refine ADraw.plan tyOk mx (.q 0 (.q 1 (.q 2 (.q 3 (.q 4 (.q 6 (.q 7 (.q 8 (.q 9 (.q 10 (.last 5 (.last 11 (.q 12 (.q 13 (.done)))))))))))))) : Plan) (by kernel_rfl) ?_
  conv => whnf
  refine ACall.useR (at_spec 2 2 x y a b z m (by omega) (by omega) (by omega) (by omega)) ?_
  conv => whnf
  refine ACall.useR (at_spec 2 2 x y a b z' (revM m) (by omega) (by omega) (by show 2 * a + b < ((boxRows (revN m) 2 2).getD (x * 2 + y) []).length; rw [hr]; omega) (by omega)) ?_
  conv => whnf
  exact ⟨rfl, rfl⟩

theorem sameQ_spec (z z' : Int) (m m' : List (List Int)) (km : SzM m) (km' : SzM m') (h : goodB 2 2 z m = true) (h' : goodB 2 2 z' m' = true) :
    FSpec Try.prog 125 [.ag [.c (.int .i64 (2)), .c (.int .i64 (2)), .c (.int .i64 (z)), .t (.rows m)], .ag [.c (.int .i64 (2)), .c (.int .i64 (2)), .c (.int .i64 (z')), .t (.rows m')]] (ex (.c (.bool true)) []) := by
  refine fspec tyOk mx Try.func125 rfl (by kernel_rfl) rfl ?_
  conv => whnf
  refine ACall.use (IsBox_spec 2 2 z m km) ?_
  rw [h]
  conv => whnf
  first | refine ⟨fun h => absurd h (by decide), fun _ => ?_⟩ | refine ⟨fun _ => ?_, fun h => absurd h (by decide)⟩
  conv => whnf
  refine ACall.use (IsBox_spec 2 2 z' m' km') ?_
  rw [h']
  conv => whnf
  (repeat (conv => whnf); (first | refine ⟨fun h => absurd h (by decide), fun _ => ?_⟩ | refine ⟨fun _ => ?_, fun h => absurd h (by decide)⟩)); conv => whnf
  exact ⟨rfl, rfl⟩

theorem MixBoxes_no (z : Int) (m : List (List Int)) (km : SzM m) (h : pairB 2 2 z m = true) (hz : 1000 < z + z) :
    FSpec Try.prog 89 [.ag [.c (.int .i64 (2)), .c (.int .i64 (2)), .c (.int .i64 (z)), .t (.rows m)], .ag [.c (.int .i64 (2)), .c (.int .i64 (2)), .c (.int .i64 (z)), .t (.rows (revM m))]] (ex (.tu [.ag [.c (.int .i64 (0)), .c (.int .i64 (0)), .c (.int .i64 (0)), .c (.slice none 0 0)], .c (.bool false)]) []) := by
  obtain ⟨_, _, g1, g2, g3, g4⟩ := pairB_spec h
  have hg : goodB 2 2 z m = true := by simp only [pairB, Bool.and_eq_true] at h; exact h.1
  have ew : IntKind.i64.wrap (z + z) = z + z := w64 (by omega) (by omega)
  refine fspec tyOk mx Try.func89 rfl (by kernel_rfl) rfl ?_
  conv => whnf
  refine ACall.use (sameQ_spec z z m (revM m) km (box_sz _) hg (eo_good h).1) ?_
  conv => whnf
  first | refine ⟨fun h => absurd h (by decide), fun _ => ?_⟩ | refine ⟨fun _ => ?_, fun h => absurd h (by decide)⟩
  conv => whnf
  refine ⟨fun h2 => ?_, fun h2 => ?_⟩
  · conv => whnf
    exact ⟨rfl, rfl⟩
  · have h2 := of_decide_eq_false h2
    rw [ew] at h2
    omega
theorem MixBoxes_ok (z : Int) (m : List (List Int)) (km : SzM m) (h : pairB 2 2 z m = true) (hz : z + z ≤ 1000) :
    FSpec Try.prog 89 [.ag [.c (.int .i64 (2)), .c (.int .i64 (2)), .c (.int .i64 (z)), .t (.rows m)], .ag [.c (.int .i64 (2)), .c (.int .i64 (2)), .c (.int .i64 (z)), .t (.rows (revM m))]] (ex (.tu [.ag [.c (.int .i64 (2)), .c (.int .i64 (2)), .c (.int .i64 (W (z + z))), .own 0], .c (.bool true)]) [(0, .rows 23 3 true (eoM m))]) := by
  obtain ⟨_, _, g1, g2, g3, g4⟩ := pairB_spec h
  have h4 : ∀ r, r ∈ m → r.length = 4 := fun r hr => (g4 r hr).1
  have hg : goodB 2 2 z m = true := by simp only [pairB, Bool.and_eq_true] at h; exact h.1
  have ew : IntKind.i64.wrap (z + z) = z + z := w64 (by omega) (by omega)
  refine fspec tyOk mx Try.func89 rfl (by kernel_rfl) rfl ?_
  conv => whnf
  refine ACall.use (sameQ_spec z z m (revM m) km (box_sz _) hg (eo_good h).1) ?_
  conv => whnf
  first | refine ⟨fun h => absurd h (by decide), fun _ => ?_⟩ | refine ⟨fun _ => ?_, fun h => absurd h (by decide)⟩
  conv => whnf
  refine ⟨fun h2 => ?_, fun h2 => ?_⟩
  · have h2 := of_decide_eq_true h2
    rw [ew] at h2
    omega
  · conv => whnf
    refine ACall.use (newBox_spec 2 2 (W (z + z)) _ [.rp [.c (.int .i64 (2)), .c (.int .i64 (2)), .c (.int .i64 (z)), .t (.rows m)] 0, .rp [.c (.int .i64 (2)), .c (.int .i64 (2)), .c (.int .i64 (z)), .t (.rows (revM m))] 0] (eoN m) (by omega) (by omega) (fun _ _ => rfl) rfl (fun i k' a b hi hk ha hb => eoN_spec m g3 h4 z z i k' a b hi hk ha hb)) ?_
    conv => whnf
    exact ⟨rfl, rfl⟩

def eoOk (x y z : Int) (m : List (List Int)) : Bool := pairB x y z m && decide (z + z ≤ 1000)
def eoR (x y z : Int) (m : List (List Int)) : List (List Int) := if eoOk x y z m then eoM m else []
theorem EvenOut_i (x y z : Int) (m : List (List Int)) (_hx : InR x) (_hy : InR y) (_hz : InR z) (_hm : OkM m) (km : SzM m) :
    FSpec Try.prog 38 [.ag [.c (.int .i64 (x)), .c (.int .i64 (y)), .c (.int .i64 (z)), .t (.rows m)]] (ex (.tu [.ag [.c (.int .i64 (if eoOk x y z m then 2 else 0)), .c (.int .i64 (if eoOk x y z m then 2 else 0)), .c (.int .i64 (if eoOk x y z m then W (z + z) else 0)), .own 0], .c (.bool (eoOk x y z m))]) [(0, .rows 23 3 true (eoR x y z m))]) := by
  refine view_box ?_
  refine fspec tyOk mx Try.func38 rfl (by kernel_rfl) rfl ?_
  conv => whnf
  refine ACall.use (isPair_spec x y z m km) ?_
  conv => whnf
  refine ⟨fun h => ?_, fun h => ?_⟩
  · have h : pairB x y z m = false := by simpa using h
    have e : eoOk x y z m = false := by rw [eoOk, h]; rfl
    conv => whnf
    exact .inl ⟨e, rfl, rfl⟩
  · have h : pairB x y z m = true := by simpa using h
    have h' := h
    obtain ⟨rfl, rfl, g1, g2, g3, g4⟩ := pairB_spec h
    have h4 : ∀ r, r ∈ m → r.length = 4 := fun r hr => (g4 r hr).1
    by_cases hz : z + z ≤ 1000
    · have e : eoOk 2 2 z m = true := by rw [eoOk, h, decide_eq_true hz]; rfl
      conv => whnf
      refine ADraw.plan tyOk mx (.q 0 (.q 1 (.last 2 (.last 3 (.last 4 (.q 5 (.q 6 (.last 7 (.q 8 (.done))))))))) : Plan) (by kernel_rfl) ?_
      conv => whnf
      refine ACall.useR (flipped_spec m g3 h4 z) ?_
      conv => whnf
      refine ACall.useR (MixBoxes_ok z m km h hz) ?_
      conv => whnf
      repeat' (refine And.intro ?_ ?_ <;> (conv => whnf))
      all_goals exact .inr ⟨e, rfl, rfl⟩
    · have e : eoOk 2 2 z m = false := by rw [eoOk, decide_eq_false hz, Bool.and_false]
      conv => whnf
      refine ADraw.plan tyOk mx (.q 0 (.q 1 (.last 2 (.last 3 (.last 4 (.q 5 (.q 6 (.last 7 (.q 8 (.done))))))))) : Plan) (by kernel_rfl) ?_
      conv => whnf
      refine ACall.useR (flipped_spec m g3 h4 z) ?_
      conv => whnf
      refine ACall.useR (MixBoxes_no z m km h (by omega)) ?_
      conv => whnf
      repeat' (refine And.intro ?_ ?_ <;> (conv => whnf))
      all_goals exact .inl ⟨e, rfl, rfl⟩
end Go.Proofs.Ytgefdbihdliolaa
