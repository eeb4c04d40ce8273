/- Boxes as the draws make them: flipped ones, noise. -/
import Derived.Test.YtkomndcehdneaaaM3
import Derived.Test.YtkomndcehdneaaaM2
import Derived.Test.YtkomndcehdneaaaRows
import Derived.Test.YtkomndcehdneaaaChecked
import Derived.ProofKit
import Derived.Deep.Matrix
import Derived.Lib.SmallJoins
namespace Go.Proofs.Ytkomndcehdneaaa
open Go.Aw
set_option maxRecDepth 100000
set_option maxHeartbeats 4000000

theorem xorF {k : Nat} {f g : Int} (hk : k < 4) (hf : 0 ≤ f ∧ f ≤ 1) (hg : 0 ≤ g ∧ g ≤ 1) : ∃ q : Nat, bits .xor .i64 (k : Int) (IntKind.i64.wrap (IntKind.i64.wrap (2 * f) + g)) = (q : Int) ∧ q < 4 := by
  have : ∀ k : Nat, k < 4 → ∀ f : Nat, f < 2 → ∀ g : Nat, g < 2 → (bits .xor .i64 (k : Int) (IntKind.i64.wrap (IntKind.i64.wrap (2 * (f : Int)) + (g : Int)))).toNat < 4 ∧ 0 ≤ bits .xor .i64 (k : Int) (IntKind.i64.wrap (IntKind.i64.wrap (2 * (f : Int)) + (g : Int))) := by decide +kernel
  obtain ⟨f, rfl⟩ : ∃ n : Nat, f = n := ⟨f.toNat, by omega⟩
  obtain ⟨g, rfl⟩ : ∃ n : Nat, g = n := ⟨g.toNat, by omega⟩
  have h := this k hk f (by omega) g (by omega)
  exact ⟨_, (Int.toNat_of_nonneg h.2).symm, h.1⟩

theorem l2Flip_g (nx ny : Nat) (hx : nx ≤ 3) (hy : ny ≤ 3) (z : Int) (hz : InR z) (m : List (List Int)) (hm : m.length = nx * ny) (h4 : R4 m) (fl : List Int) (hl : fl.length = nx + ny) (h01 : ∀ v, v ∈ fl → 0 ≤ v ∧ v ≤ 1) :
    FSpec Try.prog 223 [.ag [.c (.int .i64 (nx)), .c (.int .i64 (ny)), .c (.int .i64 (z)), .t (.rows m)], .t (.ints .i64 fl)] (boxN nx ny (nx * ny)) := by
  have hn : nx * ny ≤ 3 * 3 := Nat.mul_le_mul hx hy
  refine fspec tyOk mx Try.func223 rfl (by kernel_rfl) rfl ?_
  conv => whnf
  refine aloopI tyOk mx (fun p : Nat × List (List Int) => (⟨68, [(1, .t (.ints .i64 fl)), (2, .ptr 0 0), (4, .ptr 1 0), (5, .ptr 3 0), (6, .c (.int .i64 (p.1)))], [(0, .cells 53 [.c (.int .i64 (nx)), .c (.int .i64 (ny)), .c (.int .i64 (z)), .t (.rows m)]), (1, .cells 53 [.c (.int .i64 (0)), .c (.int .i64 (0)), .c (.int .i64 (0)), .c (.slice none 0 0)]), (2, .rows 25 3 true p.2), (3, .cells 53 [.c (.int .i64 (nx)), .c (.int .i64 (ny)), .c (.int .i64 (z)), .own 2])], 4⟩ : St)) (fun p => p.1 ≤ nx ∧ p.2.length = p.1 * ny ∧ R4 p.2) (fun p => nx - p.1) (0, []) ⟨by simp, by simp, R4.nil⟩ none (by refine ⟨rfl, rfl, ?_, ?_⟩ <;> ((repeat' (first | exact trivial | exact rfl | refine And.intro ?_ ?_)) <;> (try ((conv => whnf); first | refine vint ?_ | refine vboo ?_ | refine rint ?_ | refine rrow ?_ | skip)) <;> (try first | omega | (simp; done) | ((repeat rw [flts_closed _ (by assumption)]); exact vws_closed _ (by assumption))))) (fun p hp => ?_)
  obtain ⟨x, o⟩ := p
  obtain ⟨p1, p2, p3⟩ := hp
  simp only at p1 p2 p3
  dsimp only
  refine ⟨fun h => ?_, fun h => ?_⟩
  · have h : x < nx := by have := ltT h; omega
    have hix : x * ny + ny ≤ nx * ny := by have := Nat.mul_le_mul_right ny h; rw [Nat.succ_mul] at this; exact this
    conv => whnf
    refine aloopI tyOk mx (fun q : Nat × List (List Int) => (⟨68, [(1, .t (.ints .i64 fl)), (2, .ptr 0 0), (4, .ptr 1 0), (5, .ptr 3 0), (6, .c (.int .i64 (x))), (7, .c (.int .i64 (q.1)))], [(0, .cells 53 [.c (.int .i64 (nx)), .c (.int .i64 (ny)), .c (.int .i64 (z)), .t (.rows m)]), (1, .cells 53 [.c (.int .i64 (0)), .c (.int .i64 (0)), .c (.int .i64 (0)), .c (.slice none 0 0)]), (2, .rows 25 3 true q.2), (3, .cells 53 [.c (.int .i64 (nx)), .c (.int .i64 (ny)), .c (.int .i64 (z)), .own 2])], 4⟩ : St)) (fun q => q.1 ≤ ny ∧ q.2.length = x * ny + q.1 ∧ R4 q.2) (fun q => ny - q.1) (0, o) ⟨by simp, by simpa using p2, p3⟩ none (by refine ⟨rfl, rfl, ?_, ?_⟩ <;> ((repeat' (first | exact trivial | exact rfl | refine And.intro ?_ ?_)) <;> (try ((conv => whnf); first | refine vint ?_ | refine vboo ?_ | refine rint ?_ | refine rrow ?_ | skip)) <;> (try first | omega | (simp; done) | ((repeat rw [flts_closed _ (by assumption)]); exact vws_closed _ (by assumption))))) (fun q hq => ?_)
    obtain ⟨y, o⟩ := q
    obtain ⟨q1, q2, q3⟩ := hq
    simp only at q1 q2 q3
    dsimp only
    refine ⟨fun h5 => ?_, fun h5 => ?_⟩
    · have h5 : y < ny := by have := ltT h5; omega
      have hr4 := h4 _ (getD_mem (d := []) (k := x * ny + y) (by omega))
      refine ADraw.mid (⟨68, [(1, .t (.ints .i64 fl)), (2, .ptr 0 0), (4, .ptr 1 0), (5, .ptr 3 0), (6, .c (.int .i64 (x))), (7, .c (.int .i64 (y))), (8, .t (.ints .i64 (m.getD (x * ny + y) []))), (9, .own 4)], [(0, .cells 53 [.c (.int .i64 (nx)), .c (.int .i64 (ny)), .c (.int .i64 (z)), .t (.rows m)]), (1, .cells 53 [.c (.int .i64 (0)), .c (.int .i64 (0)), .c (.int .i64 (0)), .c (.slice none 0 0)]), (2, .rows 25 3 true o), (3, .cells 53 [.c (.int .i64 (nx)), .c (.int .i64 (ny)), .c (.int .i64 (z)), .own 2]), (4, .ints 3 .i64 (List.replicate 4 0))], 5⟩ : St) (ADraw.plan tyOk mx (.q 0 (.q 1 (.q 2 (.alt 3 (.q 5 (.last 4 (.q 6 (.done)))) (.last 4 (.last 3 (.q 5 (.q 6 (.done)))))))) : Plan) (by kernel_rfl) ?_) ?_
      · conv => whnf
        repeat' (first | (refine And.intro ?_ ?_ <;> (conv => whnf)) | (refine ACall.useR (l2Row_spec nx ny x y z m (by omega) (by omega)) ?_; conv => whnf) | (refine ⟨4, rfl, rfl, by simp [room], ?_⟩; conv => whnf))
        all_goals
          refine ⟨[(0, .row 0), (1, .row 1), (2, .row 2), (3, .row 3), (4, .row 4)], ?_⟩
          (refine ⟨rfl, rfl, ?_, ?_⟩ <;> ((repeat' (first | exact trivial | exact rfl | refine And.intro ?_ ?_)) <;> (try ((conv => whnf); first | refine vint ?_ | refine vboo ?_ | refine rint ?_ | refine rrow ?_ | skip)) <;> (try first | omega | (simp; done) | ((repeat rw [flts_closed _ (by assumption)]); exact vws_closed _ (by assumption)))))
      · conv => whnf
        refine aloopI tyOk mx (fun t : Nat × List Int => (⟨68, [(1, .t (.ints .i64 fl)), (2, .ptr 0 0), (4, .ptr 1 0), (5, .ptr 3 0), (6, .c (.int .i64 (x))), (7, .c (.int .i64 (y))), (8, .t (.ints .i64 (m.getD (x * ny + y) []))), (9, .own 4), (10, .c (.int .i64 (t.1)))], [(0, .cells 53 [.c (.int .i64 (nx)), .c (.int .i64 (ny)), .c (.int .i64 (z)), .t (.rows m)]), (1, .cells 53 [.c (.int .i64 (0)), .c (.int .i64 (0)), .c (.int .i64 (0)), .c (.slice none 0 0)]), (2, .rows 25 3 true o), (3, .cells 53 [.c (.int .i64 (nx)), .c (.int .i64 (ny)), .c (.int .i64 (z)), .own 2]), (4, .ints 3 .i64 t.2)], 5⟩ : St)) (fun t => t.1 ≤ 4 ∧ (t.2.length = 4 ∧ ∀ v, v ∈ t.2 → InR v)) (fun t => 4 - t.1) (0, List.replicate 4 0) ⟨by simp, rep4⟩ none (by refine ⟨rfl, rfl, ?_, ?_⟩ <;> ((repeat' (first | exact trivial | exact rfl | refine And.intro ?_ ?_)) <;> (try ((conv => whnf); first | refine vint ?_ | refine vboo ?_ | refine rint ?_ | refine rrow ?_ | skip)) <;> (try first | omega | (simp; done) | ((repeat rw [flts_closed _ (by assumption)]); exact vws_closed _ (by assumption))))) (fun t ht => ?_)
        obtain ⟨k, to⟩ := t
        obtain ⟨t1, t2⟩ := ht
        simp only at t1 t2
        dsimp only
        refine ⟨fun h6 => ?_, fun h6 => ?_⟩
        · have h6 : k < 4 := by have := of_decide_eq_true h6; omega
          obtain ⟨q, eq, hq⟩ := xorF h6 (h01 _ (getD_mem (d := 0) (show x < fl.length by omega))) (h01 _ (getD_mem (d := 0) (show nx + y < fl.length by omega)))
          refine ADraw.plan tyOk mx (.q 0 (.q 1 (.q 2 (.q 3 (.q 4 (.q 5 (.q 6 (.q 7 (.q 8 (.q 9 (.q 10 (.q 11 (.q 12 (.q 13 (.q 14 (.q 15 (.q 16 (.q 17 (.q 18 (.q 19 (.q 20 (.last 21 (.done)))))))))))))))))))))) : Plan) (by kernel_rfl) ?_
          conv => whnf
          refine ⟨x, rfl, (show x < fl.length by omega), ?_⟩
          conv => whnf
          refine ⟨nx + y, by rw [show (nx : Int) + (y : Int) = ((nx + y : Nat) : Int) by omega]; exact w64 (by omega) (by omega), (show nx + y < fl.length by omega), ?_⟩
          conv => whnf
          refine ⟨k, rfl, by omega, ?_⟩
          conv => whnf
          refine ⟨q, eq, by omega, ?_⟩
          conv => whnf
          rw [nat_wrap (by omega)]
          exact ⟨(k + 1, to.set q _), none, (by refine ⟨rfl, rfl, ?_, ?_⟩ <;> ((repeat' (first | exact trivial | exact rfl | refine And.intro ?_ ?_)) <;> (try ((conv => whnf); first | refine vint ?_ | refine vboo ?_ | refine rint ?_ | refine rrow ?_ | skip)) <;> (try first | omega | (simp; done) | ((repeat rw [flts_closed _ (by assumption)]); exact vws_closed _ (by assumption))))), ⟨by simp only; omega, set4 t2 _ (getI hr4.2 _)⟩, by simp only; omega⟩
        · have h6 : ¬ k < 4 := by have := of_decide_eq_false h6; omega
          conv => whnf
          refine ⟨by simp [room]; omega, ?_⟩
          conv => whnf
          rw [nat_wrap (by omega)]
          exact ⟨(y + 1, o ++ [to]), none, (by refine ⟨rfl, rfl, ?_, ?_⟩ <;> ((repeat' (first | exact trivial | exact rfl | refine And.intro ?_ ?_)) <;> (try ((conv => whnf); first | refine vint ?_ | refine vboo ?_ | refine rint ?_ | refine rrow ?_ | skip)) <;> (try first | omega | (simp; done) | ((repeat rw [flts_closed _ (by assumption)]); exact vws_closed _ (by assumption))))), ⟨by simp only; omega, by simp only [List.length_append, List.length_singleton]; omega, R4.app q3 t2⟩, by simp only; omega⟩
    · have h5 : ¬ y < ny := by have := ltF h5; omega
      obtain rfl : y = ny := by omega
      conv => whnf
      rw [nat_wrap (by omega)]
      exact ⟨(x + 1, o), none, (by refine ⟨rfl, rfl, ?_, ?_⟩ <;> ((repeat' (first | exact trivial | exact rfl | refine And.intro ?_ ?_)) <;> (try ((conv => whnf); first | refine vint ?_ | refine vboo ?_ | refine rint ?_ | refine rrow ?_ | skip)) <;> (try first | omega | (simp; done) | ((repeat rw [flts_closed _ (by assumption)]); exact vws_closed _ (by assumption))))), ⟨by simp only; omega, by simp only [Nat.succ_mul]; omega, q3⟩, by simp only; omega⟩
  · have h : ¬ x < nx := by have := ltF h; omega
    obtain rfl : x = nx := by omega
    conv => whnf
    exact ⟨z, o, hz, p2, p3, rfl, rfl⟩

/-- noise, or no box -/
def noiseP (nx ny : Nat) : AVal → List (Nat × ARow) → Prop := fun v h =>
  (∃ (m : List (List Int)), m.length = nx * ny ∧ R4 m ∧ v = .tu [.ag [.c (.int .i64 nx), .c (.int .i64 ny), .c (.int .i64 4), .own 0], .c (.bool true)] ∧ h = [(0, .rows 25 3 true m)]) ∨
  (v = .tu [.ag [.c (.int .i64 0), .c (.int .i64 0), .c (.int .i64 0), .c (.slice none 0 0)], .c (.bool false)] ∧ h = [])

theorem NoiseBox_g (nx ny : Nat) (hs : szOk nx ny = true) (hx : nx ≤ 3) (hy : ny ≤ 3) : FSpec Try.prog 259 [.c (.int .i64 (nx)), .c (.int .i64 (ny)), .c (.int .i64 (1))] (noiseP nx ny) := by
  have hn : nx * ny ≤ 3 * 3 := Nat.mul_le_mul hx hy
  have eN : IntKind.i64.wrap ((nx : Int) * (ny : Int)) = ((nx * ny : Nat) : Int) := by rw [← Int.natCast_mul]; exact w64 (by omega) (by omega)
  refine fspec tyOk mx Try.func259 rfl (by kernel_rfl) rfl ?_
  conv => whnf
  refine ACall.use (l2Sizes_spec _ _) ?_
  rw [hs]
  conv => whnf
  (repeat (conv => whnf); (first | refine ⟨fun h => absurd h (by decide), fun _ => ?_⟩ | refine ⟨fun _ => ?_, fun h => absurd h (by decide)⟩)); conv => whnf
  refine ACall.use (l1In_spec _ _ _) ?_
  (repeat (conv => whnf); (first | refine ⟨fun h => absurd h (by decide), fun _ => ?_⟩ | refine ⟨fun _ => ?_, fun h => absurd h (by decide)⟩)); conv => whnf
  refine aloopI tyOk mx (fun i : List (List Int) => (⟨47, [(0, .c (.int .i64 (nx))), (1, .c (.int .i64 (ny))), (2, .c (.int .i64 (1))), (6, .ptr 0 0), (8, .ptr 2 0), (9, .c (.int .i64 (i.length)))], [(0, .cells 53 [.c (.int .i64 (0)), .c (.int .i64 (0)), .c (.int .i64 (0)), .c (.slice none 0 0)]), (1, .rows 25 3 true i), (2, .cells 53 [.c (.int .i64 (nx)), .c (.int .i64 (ny)), .c (.int .i64 (4)), .own 1])], 3⟩ : St)) (fun i => i.length ≤ nx * ny ∧ R4 i) (fun i => nx * ny - i.length) [] ⟨by simp, R4.nil⟩ none (by refine ⟨rfl, rfl, ?_, ?_⟩ <;> ((repeat' (first | exact trivial | exact rfl | refine And.intro ?_ ?_)) <;> (try ((conv => whnf); first | refine vint ?_ | refine vboo ?_ | refine rint ?_ | refine rrow ?_ | skip)) <;> (try first | omega | (simp; done) | ((repeat rw [flts_closed _ (by assumption)]); exact vws_closed _ (by assumption))))) (fun i hi => ?_)
  obtain ⟨i1, i2⟩ := hi
  conv => whnf
  rw [eN]
  refine ⟨fun h => ?_, fun h => ?_⟩
  · have h : i.length < nx * ny := by have := ltT h; omega
    conv => whnf
    refine ⟨by simp [room]; omega, ?_⟩
    conv => whnf
    rw [nat_wrap (by omega)]
    exact ⟨i ++ [_], none, (by refine ⟨rfl, rfl, ?_, ?_⟩ <;> ((repeat' (first | exact trivial | exact rfl | refine And.intro ?_ ?_)) <;> (try ((conv => whnf); first | refine vint ?_ | refine vboo ?_ | refine rint ?_ | refine rrow ?_ | skip)) <;> (try first | omega | (simp; done) | ((repeat rw [flts_closed _ (by assumption)]); exact vws_closed _ (by assumption))))), ⟨by simp only [List.length_append, List.length_singleton]; omega, R4.app i2 (set4 (set4 (set4 (set4 rep4 _ (by unfold InR; omega)) _ (by unfold InR; omega)) _ (by unfold InR; omega)) _ (by unfold InR; omega))⟩, by simp only [List.length_append, List.length_singleton]; omega⟩
  · have h : ¬ i.length < nx * ny := by have := ltF h; omega
    have hm : i.length = nx * ny := by omega
    have hsz : SzM i := by
      have k1 := tot_le_mul (m := i) (n := 4) (fun r hr => by have := (i2 r hr).1; omega)
      have : i.length * 4 ≤ 9 * 4 := Nat.mul_le_mul_right 4 (by omega)
      unfold SzM; omega
    conv => whnf
    refine ACallS.inline tyOk mx Try.func171 rfl (by kernel_rfl) rfl ?_
    conv => whnf
    refine ACall.use (l2Box_spec nx ny 4 i hsz) ?_
    conv => whnf
    refine ⟨fun h4 => ?_, fun h4 => ?_⟩
    · conv => whnf
      refine ⟨rfl, ?_⟩
      conv => whnf
      exact .inr ⟨rfl, rfl⟩
    · conv => whnf
      refine ⟨rfl, ?_⟩
      conv => whnf
      exact .inl ⟨i, hm, i2, rfl, rfl⟩
end Go.Proofs.Ytkomndcehdneaaa
/- Draws of boxes. -/
namespace Go.Proofs.Ytkomndcehdneaaa
open Go.Aw
set_option maxRecDepth 100000
set_option maxHeartbeats 4000000

/-- a drawn box, of the function's own -/
def boxO (code : List Int) (a k : Nat) (x y : Int) (n : Nat) : AVal → List (Nat × ARow) → ARow → Prop := fun v h r =>
  ∃ (z : Int) (m : List (List Int)) (a' : Nat) (s' : Int), InR z ∧ m.length = n ∧ R4 m ∧ v = .ag [.c (.int .i64 x), .c (.int .i64 y), .c (.int .i64 z), .own 0] ∧ h = [(0, .rows 25 3 true m)] ∧ a ≤ a' ∧ a' ≤ a + k ∧ r = cur code a' s'
abbrev b0 : ARow := .cells 53 [.c (.int .i64 (0)), .c (.int .i64 (0)), .c (.int .i64 (0)), .c (.slice none 0 0)]

theorem someBox_spec (code : List Int) (hc : OkB code) (a : Nat) (s : Int) (ha : a ≤ 700000000) (x y : Int) :
    OSpec Try.prog 220 (cur code a s) [.ptr 0 0, .c (.int .i64 (x)), .c (.int .i64 (y))] (boxO code a 1000 x y (near x * near y)) := by
  have nx := near_le x
  have ny := near_le y
  have nxy : near x * near y ≤ 4 * 4 := Nat.mul_le_mul nx ny
  generalize hN : near x * near y = N at nxy
  have eN : IntKind.i64.wrap ((near x : Int) * (near y : Int)) = (N : Int) := by rw [← Int.natCast_mul, hN]; exact w64 (by omega) (by omega)
  refine ospec tyOk mx Try.func220 rfl (by kernel_rfl) rfl rfl ?_
  conv => whnf
  refine ACallS.inline tyOk mx Try.func116 rfl (by kernel_rfl) rfl ?_
  conv => whnf
  refine ACallS.tmut 0 (pick_spec code hc a s (by omega) 6 (by omega) (by omega)) ?_ rfl (by (repeat' (first | exact trivial | exact rfl | refine And.intro ?_ ?_)) <;> (try first | omega | (simp; done))) (by (repeat' (first | exact trivial | exact rfl | refine And.intro ?_ ?_)) <;> (try first | omega | (simp; done)))
  rintro v r ⟨y, a1, s1, rfl, y0, y1, e_a1, g_a1, rfl⟩
  conv => whnf
  obtain ⟨i, rfl, hi⟩ := nat_of (len := 6) y0 (by omega)
  refine ⟨i, rfl, hi, ?_⟩
  conv => whnf
  have h_w : 1 ≤ (((((((List.replicate 6 (0 : Int)).set 0 4).set 1 2).set 2 6).set 3 1).set 4 8).set 5 12).getD i 0 ∧ (((((((List.replicate 6 (0 : Int)).set 0 4).set 1 2).set 2 6).set 3 1).set 4 8).set 5 12).getD i 0 ≤ 12 := among_in (by kernel_rfl) hi
  generalize (((((((List.replicate 6 (0 : Int)).set 0 4).set 1 2).set 2 6).set 3 1).set 4 8).set 5 12).getD i 0 = w at h_w ⊢
  refine ⟨rfl, ?_⟩
  conv => whnf
  clear y0 y1 hi
  refine aloopI tyOk mx (fun i : List (List Int) × Nat × Int => (⟨58, [(0, .ptr 0 0), (1, .c (.int .i64 (x))), (2, .c (.int .i64 (y))), (6, .ptr 1 0), (7, .ptr 2 0), (8, .c (.int .i64 (i.1.length))), (58, .ptr 0 0)], [(0, cur code i.2.1 i.2.2), (1, b0), (2, .cells 53 [.c (.int .i64 (x)), .c (.int .i64 (y)), .c (.int .i64 (w)), .own 3]), (3, .rows 25 3 true i.1)], 4⟩ : St)) (fun i => i.1.length ≤ N ∧ R4 i.1 ∧ a ≤ i.2.1 ∧ i.2.1 ≤ a + 2 + 48 * i.1.length) (fun i => N - i.1.length) ([], a1, s1) ⟨by simp, R4.nil, by simp only; omega, by simp; omega⟩ (some [(0,.row 0),(1,.row 1),(2,.row 3),(3,.nil)]) (by (refine ⟨rfl, rfl, ?_, ?_⟩ <;> ((repeat' (first | exact trivial | exact rfl | refine And.intro ?_ ?_)) <;> (try ((conv => whnf); first | refine vint ?_ | refine vboo ?_ | refine rint ?_ | refine rrow ?_ | skip)) <;> (try first | omega | (simp; done) | ((repeat rw [flts_closed _ (by assumption)]); exact vws_closed _ (by assumption)))))) (fun i hi => ?_)
  obtain ⟨m, a2, s2⟩ := i
  obtain ⟨h1, h2, h3, h4⟩ := hi
  simp only at h1 h2 h3 h4
  dsimp only
  conv => whnf
  refine ACall.use (l2Near_spec _) ?_
  conv => whnf
  refine ACall.use (l2Near_spec _) ?_
  conv => whnf
  rw [eN]
  refine ⟨fun h => ?_, fun h => ?_⟩
  · have h := ltT h
    conv => whnf
    refine ADraw.plan tyOk mx (.q 1 (.q 2 (.last 0 (.q 3 (.q 4 (.done))))) : Plan) (by kernel_rfl) ?_
    conv => whnf
    repeat' (first | (refine And.intro ?_ ?_ <;> (conv => whnf)) | (refine ⟨4, rfl, rfl, by simp [room], ?_⟩; conv => whnf))
    all_goals
      refine aloopI tyOk mx (fun j : Int × List Int × Nat × Int => (⟨58, [(0, .ptr 0 0), (1, .c (.int .i64 (x))), (2, .c (.int .i64 (y))), (6, .ptr 1 0), (7, .ptr 2 0), (8, .c (.int .i64 (m.length))), (9, .own 4), (10, .c (.int .i64 (j.1))), (58, .ptr 0 0)], [(0, cur code j.2.2.1 j.2.2.2), (1, b0), (2, .cells 53 [.c (.int .i64 (x)), .c (.int .i64 (y)), .c (.int .i64 (w)), .own 3]), (3, .rows 25 3 true m), (4, .ints 3 .i64 j.2.1)], 5⟩ : St)) (fun j => 0 ≤ j.1 ∧ j.1 ≤ w ∧ (j.2.1.length = 4 ∧ ∀ v, v ∈ j.2.1 → InR v) ∧ a2 ≤ j.2.2.1 ∧ (j.2.2.1 : Int) + 4 * j.1 ≤ a2 + 4 * w) (fun j => j.1.toNat) (w, List.replicate 4 0, a2, s2) ⟨by simp only; omega, by simp only; omega, rep4, by simp only; omega, by simp only; omega⟩ none (by refine ⟨rfl, rfl, ?_, ?_⟩ <;> ((repeat' (first | exact trivial | exact rfl | refine And.intro ?_ ?_)) <;> (try ((conv => whnf); first | refine vint ?_ | refine vboo ?_ | refine rint ?_ | refine rrow ?_ | skip)) <;> (try first | omega | (simp; done) | ((repeat rw [flts_closed _ (by assumption)]); exact vws_closed _ (by assumption))))) (fun j hj => ?_)
      obtain ⟨left, r, a3, s3⟩ := j
      obtain ⟨j1, j2, j3, j4, j5⟩ := hj
      simp only at j1 j2 j3 j4 j5
      dsimp only
      conv => whnf
      refine ⟨fun h5 => ?_, fun h5 => ?_⟩
      · have h5 := of_decide_eq_true h5
        conv => whnf
        refine ACallS.tmut 0 (pick_spec code hc a3 s3 (by omega) left (by omega) (by omega)) ?_ rfl (by (repeat' (first | exact trivial | exact rfl | refine And.intro ?_ ?_)) <;> (try first | omega | (simp; done))) (by (repeat' (first | exact trivial | exact rfl | refine And.intro ?_ ?_)) <;> (try first | omega | (simp; done)))
        rintro v r ⟨u, a4, s4, rfl, l_u, u_u, e_a4, g_a4, rfl⟩
        conv => whnf
        refine ACallS.tmut 0 (pick_spec code hc a4 s4 (by omega) 4 (by omega) (by omega)) ?_ rfl (by (repeat' (first | exact trivial | exact rfl | refine And.intro ?_ ?_)) <;> (try first | omega | (simp; done))) (by (repeat' (first | exact trivial | exact rfl | refine And.intro ?_ ?_)) <;> (try first | omega | (simp; done)))
        rintro v r ⟨k, a5, s5, rfl, l_k, u_k, e_a5, g_a5, rfl⟩
        conv => whnf
        obtain ⟨q, rfl, hq⟩ := nat_of (len := 4) l_k (by omega)
        have e1 : IntKind.i64.wrap (1 + u) = 1 + u := w64 (by omega) (by omega)
        have e2 : IntKind.i64.wrap (left - (1 + u)) = left - (1 + u) := w64 (by omega) (by omega)
        refine ⟨q, rfl, by omega, ?_⟩
        conv => whnf
        refine ⟨q, rfl, by omega, ?_⟩
        conv => whnf
        rw [e1, e2]
        exact ⟨(left - (1 + u), r.set q _, a5, s5), none, (by refine ⟨rfl, rfl, ?_, ?_⟩ <;> ((repeat' (first | exact trivial | exact rfl | refine And.intro ?_ ?_)) <;> (try ((conv => whnf); first | refine vint ?_ | refine vboo ?_ | refine rint ?_ | refine rrow ?_ | skip)) <;> (try first | omega | (simp; done) | ((repeat rw [flts_closed _ (by assumption)]); exact vws_closed _ (by assumption))))), ⟨by simp only; omega, by simp only; omega, set4 j3 _ (W_inr _), by simp only; omega, by simp only; omega⟩, by simp only; omega⟩
      · have h5 := of_decide_eq_false h5
        conv => whnf
        refine ⟨by simp [room]; omega, ?_⟩
        conv => whnf
        rw [nat_wrap (by omega)]
        exact ⟨(m ++ [r], a3, s3), none, (by refine ⟨rfl, rfl, ?_, ?_⟩ <;> ((repeat' (first | exact trivial | exact rfl | refine And.intro ?_ ?_)) <;> (try ((conv => whnf); first | refine vint ?_ | refine vboo ?_ | refine rint ?_ | refine rrow ?_ | skip)) <;> (try first | omega | (simp; done) | ((repeat rw [flts_closed _ (by assumption)]); exact vws_closed _ (by assumption))))), ⟨by simp only [List.length_append, List.length_singleton]; omega, R4.app h2 j3, by simp only; omega, by simp only [List.length_append, List.length_singleton]; omega⟩, by simp only [List.length_append, List.length_singleton]; omega⟩
  · have h := ltF h
    conv => whnf
    exact ⟨w, m, a2, s2, by unfold InR; omega, by omega, h2, rfl, rfl, h3, by omega, rfl⟩
end Go.Proofs.Ytkomndcehdneaaa
/- Calls of cursor methods in plans: the contract's arguments are the call's. -/
namespace Go.Aw
open Go.RowKit
section
variable {P : Program} {st : St}
/-- a number -/
theorem ACallS.tmutI {f : FuncId} {n : Int} {r0 : ARow} {K : AVal → St → Prop} {post : AVal → ARow → Prop} (hs : TSpec P f r0 [.ptr 0 0, .c (.int .i64 n)] post)
    (hk : ∀ x r', post x r' → K x ((st.killSub 0).upd 0 r')) (hlk : look st.hp 0 = some r0) (hr : rowVw st.hp [(0, .row 0)] 1 (.row 0) r0)
    (ht : tRow r0 = true := by rfl) : ACallS P st f [.ptr 0 0, .c (.int .i64 n)] K := ACallS.tmut 0 hs hk hlk ⟨⟨rfl, rfl, rfl⟩, rfl, trivial⟩ hr rfl ht

/-- a list -/
theorem ACallS.tmutL {f : FuncId} {k : IntKind} {l : List Int} {r0 : ARow} {K : AVal → St → Prop} {post : AVal → ARow → Prop} (hs : TSpec P f r0 [.ptr 0 0, .t (.ints k l)] post)
    (hk : ∀ x r', post x r' → K x ((st.killSub 0).upd 0 r')) (hlk : look st.hp 0 = some r0) (hr : rowVw st.hp [(0, .row 0)] 1 (.row 0) r0)
    (ht : tRow r0 = true := by rfl) : ACallS P st f [.ptr 0 0, .t (.ints k l)] K := ACallS.tmut 0 hs hk hlk ⟨⟨rfl, rfl, rfl⟩, rfl, trivial⟩ hr rfl ht

/-- an empty slice, told as no rows -/
theorem rep_nilR {w : World} {bad : Nat → Prop} {hp : List (Nat × ARow)} {nx : Nat} {η : Env} {v : Value} (h : VRep w bad hp nx η (.c (.slice none 0 0)) v) : VRep w bad hp nx η (.t (.rows [])) v := by
  obtain ⟨rfl, _⟩ := h
  exact ⟨none, 0, rfl, Nat.le_refl _, Nat.zero_le _, fun i l hi => by simp at hi⟩

/-- a result that is told otherwise -/
theorem TSpec.tell {f : FuncId} {r0 : ARow} {args : List AVal} {post post' : AVal → ARow → Prop} (hs : TSpec P f r0 args post)
    (hv : ∀ x r, shut x = true → post x r → ∃ x', shut x' = true ∧ post' x' r ∧ ∀ w bad v, VRep w bad [] 0 η0 x v → VRep w bad [] 0 η0 x' v) : TSpec P f r0 args post' := by
  refine ⟨hs.1, fun w B ob η vs h1 h2 h3 h4 h5 => (hs.2 w B ob η vs h1 h2 h3 h4 h5).mono ?_⟩
  rintro e w' ⟨v, x, r', η', he, hvx, hsh, hpo, hrest⟩
  obtain ⟨x', k1, k2, k3⟩ := hv x r' hsh hpo
  exact ⟨v, x', r', η', he, k3 _ _ _ hvx, k1, k2, hrest⟩
end
end Go.Aw
/- Draws of quiet boxes. -/
namespace Go.Proofs.Ytkomndcehdneaaa
open Go.Aw
set_option maxRecDepth 100000
set_option maxHeartbeats 4000000

theorem near_nat {n : Nat} (h : n ≤ 3) : near (n : Int) = n := by unfold near; omega
theorem quietOf_spec (code : List Int) (hc : OkB code) (a : Nat) (s : Int) (ha : a ≤ 700000000) (x y : Int) :
    OSpec Try.prog 238 (cur code a s) [.ptr 0 0, .c (.int .i64 (x)), .c (.int .i64 (y))] (boxO code a 1000 x y (near x * near y)) := by
  refine ospec tyOk mx Try.func238 rfl (by kernel_rfl) rfl rfl ?_
  conv => whnf
  refine ACall.use (l2Sizes_spec _ _) ?_
  conv => whnf
  refine ⟨fun h => ?_, fun h => ?_⟩
  · conv => whnf
    refine ACallS.omut 0 (someBox_spec code hc a s ha x y) ?_ rfl (by (repeat' (first | exact trivial | exact rfl | refine And.intro ?_ ?_)) <;> (try first | omega | (simp; done))) (by (repeat' (first | exact trivial | exact rfl | refine And.intro ?_ ?_)) <;> (try first | omega | (simp; done)))
    rintro v h r ⟨z, m, a1, s1, hz, hm, h4, rfl, rfl, e1, g1, rfl⟩
    conv => whnf
    exact ⟨z, m, a1, s1, hz, hm, h4, rfl, rfl, e1, g1, rfl⟩
  · have h : szOk x y = true := by simpa using h
    obtain ⟨nx, ny, rfl, rfl, x1, x3, y1, y3, _, _⟩ := szOk_nat h
    rw [near_nat x3, near_nat y3]
    have hp2 := two_pow6 (n := nx + ny) (by omega)
    have hpl := playsL_len (nx + ny)
    have hpr := fun k hk => playsL_row (n := nx + ny) (x := k) (by omega) hk
    conv => whnf
    refine ACall.use ((l2Plays_spec nx ny (by omega)).told (x' := .t (.rows (playsL (nx + ny)))) ⟨rfl, rfl⟩) ?_
    generalize playsL (nx + ny) = pls at hpl hpr
    have hpl1 : 1 ≤ pls.length := by have := Nat.pow_le_pow_right (n := 2) (show 0 < 2 by decide) (Nat.zero_le (nx + ny)); omega
    conv => whnf
    refine ADraw.midI (ι := Int × List (List Int) × Nat × Int) (fun j => (⟨100, [(0, .ptr 0 0), (1, .c (.int .i64 (nx))), (2, .c (.int .i64 (ny))), (6, .ptr 1 0), (7, .t (.rows pls)), (8, .ptr 3 0), (100, .ptr 0 0)], [(0, cur code j.2.2.1 j.2.2.2), (1, b0), (2, .rows 25 3 true j.2.1), (3, .cells 53 [.c (.int .i64 (nx)), .c (.int .i64 (ny)), .c (.int .i64 (j.1)), .own 2])], 4⟩ : St)) (fun j => InR j.1 ∧ j.2.1.length = nx * ny ∧ R4 j.2.1 ∧ a ≤ j.2.2.1 ∧ j.2.2.1 ≤ a + 4) (ADraw.planX [6, 10] tyOk mx (.q 0 (.q 1 (.q 2 (.q 3 (.q 4 (.q 5 (.q 9 (.alti 6 (.q 7 (.alt 8 (.alti 10 (.alt 11 (.alt 12 (.last 13 (.last 14 (.done))) (.last 13 (.last 12 (.last 14 (.done))))) (.last 13 (.last 11 (.last 12 (.last 14 (.done)))))) (.last 13 (.inl 10 (.last 11 (.last 12 (.last 14 (.done))))))) (.alti 10 (.alt 8 (.alt 11 (.alt 12 (.last 13 (.last 14 (.done))) (.last 13 (.last 12 (.last 14 (.done))))) (.last 13 (.last 11 (.last 12 (.last 14 (.done)))))) (.alt 11 (.alt 8 (.alt 12 (.last 13 (.last 14 (.done))) (.last 13 (.last 12 (.last 14 (.done))))) (.last 13 (.last 8 (.last 12 (.last 14 (.done)))))) (.last 13 (.alt 8 (.last 11 (.last 12 (.last 14 (.done)))) (.last 11 (.last 8 (.last 12 (.last 14 (.done))))))))) (.last 13 (.alt 8 (.inl 10 (.last 11 (.last 12 (.last 14 (.done))))) (.inl 10 (.alt 8 (.last 11 (.last 12 (.last 14 (.done)))) (.last 11 (.last 8 (.last 12 (.last 14 (.done)))))))))))) (.last 13 (.inl 6 (.q 7 (.alt 8 (.inl 10 (.last 11 (.last 12 (.last 14 (.done))))) (.inl 10 (.alt 8 (.last 11 (.last 12 (.last 14 (.done)))) (.last 11 (.last 8 (.last 12 (.last 14 (.done)))))))))))))))))) : Plan) (by kernel_rfl) ?_) ?_
    · conv => whnf
      repeat' (first
        | (refine ⟨(z, m, a3, s3), none, ?_, ⟨hz, hm, h4, by simp only; omega, by simp only; omega⟩⟩; (refine ⟨rfl, rfl, ?_, ?_⟩ <;> ((repeat' (first | exact trivial | exact rfl | refine And.intro ?_ ?_)) <;> (try ((conv => whnf); first | refine vint ?_ | refine vboo ?_ | refine rint ?_ | refine rrow ?_ | skip)) <;> (try first | omega | (simp; done) | ((repeat rw [flts_closed _ (by assumption)]); exact vws_closed _ (by assumption))))); done)
        | (refine ⟨(z, m, a3, s3), some [(0, .row 0), (1, .row 1), (2, .row 3), (3, .row 2)], ?_, ⟨hz, hm, h4, by simp only; omega, by simp only; omega⟩⟩; (refine ⟨rfl, rfl, ?_, ?_⟩ <;> ((repeat' (first | exact trivial | exact rfl | refine And.intro ?_ ?_)) <;> (try ((conv => whnf); first | refine vint ?_ | refine vboo ?_ | refine rint ?_ | refine rrow ?_ | skip)) <;> (try first | omega | (simp; done) | ((repeat rw [flts_closed _ (by assumption)]); exact vws_closed _ (by assumption))))); done)
        | (refine ACallS.tmutI (pick_spec code hc _ _ (by omega) pls.length (by omega) (by omega)) ?_ rfl (by (repeat' (first | exact trivial | exact rfl | refine And.intro ?_ ?_)) <;> (try first | omega | (simp; done))); rintro v r ⟨z1, a1, s1, rfl, l_z1, u_z1, e_a1, g_a1, rfl⟩; (conv => whnf))
        | (refine ACallS.tmutI (pick_spec code hc _ _ (by omega) 3 (by omega) (by omega)) ?_ rfl (by (repeat' (first | exact trivial | exact rfl | refine And.intro ?_ ?_)) <;> (try first | omega | (simp; done))); rintro v r ⟨z2, a3, s3, rfl, l_z2, u_z2, e_a3, g_a3, rfl⟩; (conv => whnf))
        | (obtain ⟨i, rfl, hi⟩ := nat_of (len := pls.length) l_z1 (by omega); refine ⟨i, rfl, hi, ?_⟩; conv => whnf)
        | (refine ACall.useR' (l2PlayBox_g nx ny x3 y3 _ (hpr _ hi).1 (hpr _ hi).2 _ (W_inr _)) ?_; rintro v h ⟨z, m, hz, hm, h4, rfl, rfl⟩; conv => whnf)
        | (refine And.intro ?_ ?_ <;> (conv => whnf)))
    · rintro ⟨z, m, a2, s2⟩ ⟨hz, hm, h4, e2, g2⟩
      simp only at hz hm h4 e2 g2
      dsimp only
      conv => whnf
      refine ACallS.tmut 0 (pick_spec code hc a2 s2 (by omega) 4 (by omega) (by omega)) ?_ rfl (by (repeat' (first | exact trivial | exact rfl | refine And.intro ?_ ?_)) <;> (try first | omega | (simp; done))) (by (repeat' (first | exact trivial | exact rfl | refine And.intro ?_ ?_)) <;> (try first | omega | (simp; done)))
      rintro v r ⟨n, a3, s3, rfl, l_n, u_n, e_a3, g_a3, rfl⟩
      conv => whnf
      refine aloopI tyOk mx (fun j : Int × Int × List (List Int) × Nat × Int => (⟨100, [(0, .ptr 0 0), (1, .c (.int .i64 (nx))), (2, .c (.int .i64 (ny))), (6, .ptr 1 0), (7, .t (.rows pls)), (8, .ptr 3 0), (9, .c (.int .i64 (j.1))), (100, .ptr 0 0)], [(0, cur code j.2.2.2.1 j.2.2.2.2), (1, b0), (2, .rows 25 3 true j.2.2.1), (3, .cells 53 [.c (.int .i64 (nx)), .c (.int .i64 (ny)), .c (.int .i64 (j.2.1)), .own 2])], 4⟩ : St)) (fun j => 0 ≤ j.1 ∧ j.1 ≤ n ∧ InR j.2.1 ∧ j.2.2.1.length = nx * ny ∧ R4 j.2.2.1 ∧ a ≤ j.2.2.2.1 ∧ (j.2.2.2.1 : Int) + 4 * j.1 ≤ a + 6 + 4 * n) (fun j => j.1.toNat) (n, z, m, a3, s3) ⟨by simp only; omega, by simp only; omega, hz, hm, h4, by simp only; omega, by simp only; omega⟩ none (by refine ⟨rfl, rfl, ?_, ?_⟩ <;> ((repeat' (first | exact trivial | exact rfl | refine And.intro ?_ ?_)) <;> (try ((conv => whnf); first | refine vint ?_ | refine vboo ?_ | refine rint ?_ | refine rrow ?_ | skip)) <;> (try first | omega | (simp; done) | ((repeat rw [flts_closed _ (by assumption)]); exact vws_closed _ (by assumption))))) (fun j hj => ?_)
      obtain ⟨c, z, m, a4, s4⟩ := j
      obtain ⟨j1, j2, hz, hm, h4, j3, j4⟩ := hj
      simp only at j1 j2 hz hm h4 j3 j4
      dsimp only
      conv => whnf
      refine ⟨fun h5 => ?_, fun h5 => ?_⟩
      · have h5 := of_decide_eq_true h5
        conv => whnf
        refine ADraw.planX [7, 11] tyOk mx (.q 1 (.q 2 (.q 3 (.q 4 (.q 5 (.q 6 (.q 10 (.alt 0 (.inl 7 (.q 8 (.alt 9 (.inl 11 (.last 12 (.last 13 (.last 14 (.last 15 (.done)))))) (.inl 11 (.alt 9 (.last 12 (.last 13 (.last 14 (.last 15 (.done))))) (.last 12 (.last 9 (.last 13 (.last 14 (.last 15 (.done))))))))))) (.inl 7 (.q 8 (.alt 0 (.alt 9 (.inl 11 (.last 12 (.last 13 (.last 14 (.last 15 (.done)))))) (.inl 11 (.alt 9 (.last 12 (.last 13 (.last 14 (.last 15 (.done))))) (.last 12 (.last 9 (.last 13 (.last 14 (.last 15 (.done))))))))) (.alt 9 (.alt 0 (.inl 11 (.last 12 (.last 13 (.last 14 (.last 15 (.done)))))) (.inl 11 (.alt 0 (.last 12 (.last 13 (.last 14 (.last 15 (.done))))) (.last 12 (.alt 0 (.last 13 (.last 14 (.last 15 (.done)))) (.last 13 (.last 0 (.last 14 (.last 15 (.done)))))))))) (.inl 11 (.alt 0 (.alt 9 (.last 12 (.last 13 (.last 14 (.last 15 (.done))))) (.last 12 (.last 9 (.last 13 (.last 14 (.last 15 (.done))))))) (.alt 9 (.alt 0 (.last 12 (.last 13 (.last 14 (.last 15 (.done))))) (.last 12 (.alt 0 (.last 13 (.last 14 (.last 15 (.done)))) (.last 13 (.last 0 (.last 14 (.last 15 (.done)))))))) (.last 12 (.alt 0 (.last 9 (.last 13 (.last 14 (.last 15 (.done))))) (.last 9 (.alt 0 (.last 13 (.last 14 (.last 15 (.done)))) (.last 13 (.last 0 (.last 14 (.last 15 (.done))))))))))))))))))))))) : Plan) (by kernel_rfl) ?_
        conv => whnf
        have ew : IntKind.i64.wrap (c - 1) = c - 1 := w64 (by omega) (by omega)
        repeat' (first
          | (rw [ew]; refine ⟨(c - 1, z'', m'', a6, s6), some [(0, .row 0), (1, .row 1), (2, .row 5), (3, .row 3)], ?_, ⟨by simp only; omega, by simp only; omega, hz'', by rw [hm'', hm], h4'', by simp only; omega, by simp only; omega⟩, by simp only; omega⟩; (refine ⟨rfl, rfl, ?_, ?_⟩ <;> ((repeat' (first | exact trivial | exact rfl | refine And.intro ?_ ?_)) <;> (try ((conv => whnf); first | refine vint ?_ | refine vboo ?_ | refine rint ?_ | refine rrow ?_ | skip)) <;> (try first | omega | (simp; done) | ((repeat rw [flts_closed _ (by assumption)]); exact vws_closed _ (by assumption))))); done)
          | (refine ACallS.tmutI (pick_spec code hc _ _ (by omega) pls.length (by omega) (by omega)) ?_ rfl (by (repeat' (first | exact trivial | exact rfl | refine And.intro ?_ ?_)) <;> (try first | omega | (simp; done))); rintro v r ⟨z1, a5, s5, rfl, l_z1, u_z1, e_a5, g_a5, rfl⟩; (conv => whnf))
          | (refine ACallS.tmutI (pick_spec code hc _ _ (by omega) 3 (by omega) (by omega)) ?_ rfl (by (repeat' (first | exact trivial | exact rfl | refine And.intro ?_ ?_)) <;> (try first | omega | (simp; done))); rintro v r ⟨z2, a6, s6, rfl, l_z2, u_z2, e_a6, g_a6, rfl⟩; (conv => whnf))
          | (obtain ⟨i, rfl, hi⟩ := nat_of (len := pls.length) l_z1 (by omega); refine ⟨i, rfl, hi, ?_⟩; conv => whnf)
          | (refine ACall.useR' (l2PlayBox_g nx ny x3 y3 _ (hpr _ hi).1 (hpr _ hi).2 _ (W_inr _)) ?_; rintro v h ⟨z', m', hz', hm', h4', rfl, rfl⟩; conv => whnf)
          | (refine ACall.useR' (l2Mix_g nx ny z nx ny z' m m' (by omega) (fun r hr => (h4 r hr).1) (by omega) (fun r hr => (h4' r hr).1)) ?_; rintro v h ⟨z'', m'', hz'', hm'', h4'', rfl, rfl⟩; conv => whnf)
          | (refine And.intro ?_ ?_ <;> (conv => whnf)))
      · have h5 := of_decide_eq_false h5
        conv => whnf
        refine ACallS.tmut 0 (one_spec code hc a4 s4 (by omega) 2 (by omega) (by omega)) ?_ rfl (by (repeat' (first | exact trivial | exact rfl | refine And.intro ?_ ?_)) <;> (try first | omega | (simp; done))) (by (repeat' (first | exact trivial | exact rfl | refine And.intro ?_ ?_)) <;> (try first | omega | (simp; done)))
        rintro v r ⟨b1, a5, s5, rfl, e_a5, g_a5, rfl⟩
        conv => whnf
        refine ⟨fun hb1 => ?_, fun hb1 => ?_⟩
        · conv => whnf
          refine ACall.use' (l2Sum_g nx ny x3 y3) ?_
          rintro v h' ⟨zs, ms, hzs, hms, h4s, rfl, rfl⟩
          conv => whnf
          refine ACallS.tmut 0 (pick_spec code hc a5 s5 (by omega) pls.length (by omega) (by omega)) ?_ rfl (by (repeat' (first | exact trivial | exact rfl | refine And.intro ?_ ?_)) <;> (try first | omega | (simp; done))) (by (repeat' (first | exact trivial | exact rfl | refine And.intro ?_ ?_)) <;> (try first | omega | (simp; done)))
          rintro v r ⟨k, a6, s6, rfl, l_k, u_k, e_a6, g_a6, rfl⟩
          conv => whnf
          obtain ⟨i, rfl, hi⟩ := nat_of (len := pls.length) l_k (by omega)
          refine ⟨i, rfl, hi, ?_⟩
          conv => whnf
          refine ACall.use' (l2Flip_g nx ny x3 y3 zs hzs ms hms h4s _ (hpr _ hi).1 (hpr _ hi).2) ?_
          rintro v h' ⟨zf, mf, hzf, hmf, h4f, rfl, rfl⟩
          conv => whnf
          refine ACallS.tmut 0 (pick_spec code hc a6 s6 (by omega) 4 (by omega) (by omega)) ?_ rfl (by (repeat' (first | exact trivial | exact rfl | refine And.intro ?_ ?_)) <;> (try first | omega | (simp; done))) (by (repeat' (first | exact trivial | exact rfl | refine And.intro ?_ ?_)) <;> (try first | omega | (simp; done)))
          rintro v r ⟨n2, a7, s7, rfl, l_n2, u_n2, e_a7, g_a7, rfl⟩
          conv => whnf
          conv => whnf
          have ew : IntKind.i64.wrap (1 + n2) = 1 + n2 := w64 (by omega) (by omega)
          rw [ew]
          refine aloopI tyOk mx (fun j : Int × Int × List (List Int) => (⟨100, [(0, .ptr 0 0), (1, .c (.int .i64 (nx))), (2, .c (.int .i64 (ny))), (6, .ptr 1 0), (8, .ptr 3 0), (10, .ptr 5 0), (11, .c (.int .i64 (j.1))), (100, .ptr 0 0)], [(0, cur code a7 s7), (1, b0), (2, .rows 25 3 true j.2.2), (3, .cells 53 [.c (.int .i64 (nx)), .c (.int .i64 (ny)), .c (.int .i64 (j.2.1)), .own 2]), (4, .rows 25 3 true mf), (5, .cells 53 [.c (.int .i64 (nx)), .c (.int .i64 (ny)), .c (.int .i64 (zf)), .own 4])], 6⟩ : St)) (fun j => 0 ≤ j.1 ∧ j.1 ≤ 1 + n2 ∧ InR j.2.1 ∧ j.2.2.length = nx * ny ∧ R4 j.2.2) (fun j => j.1.toNat) (1 + n2, z, m) ⟨by simp only; omega, by simp only; omega, hz, hm, h4⟩ (some [(0, .row 0), (1, .row 1), (2, .row 2), (3, .row 3), (4, .row 5), (5, .row 6)]) (by (refine ⟨rfl, rfl, ?_, ?_⟩ <;> ((repeat' (first | exact trivial | exact rfl | refine And.intro ?_ ?_)) <;> (try ((conv => whnf); first | refine vint ?_ | refine vboo ?_ | refine rint ?_ | refine rrow ?_ | skip)) <;> (try first | omega | (simp; done) | ((repeat rw [flts_closed _ (by assumption)]); exact vws_closed _ (by assumption)))))) (fun j hj => ?_)
          have A7 : a ≤ a7 ∧ a7 ≤ a + 50 := by omega
          clear j1 j2 j3 j4 h5 hz hm h4
          obtain ⟨d, z, m⟩ := j
          obtain ⟨j1, j2, hz, hm, h4⟩ := hj
          simp only at j1 j2 hz hm h4
          dsimp only
          conv => whnf
          refine ⟨fun h6 => ?_, fun h6 => ?_⟩
          · have h6 := of_decide_eq_true h6
            conv => whnf
            refine ACall.use' (l2Mix_g nx ny z nx ny zf m mf (by omega) (fun r hr => (h4 r hr).1) (by omega) (fun r hr => (h4f r hr).1)) ?_
            rintro v h' ⟨z', m', hz', hm', h4', rfl, rfl⟩
            conv => whnf
            have ew2 : IntKind.i64.wrap (d - 1) = d - 1 := w64 (by omega) (by omega)
            rw [ew2]
            exact ⟨(d - 1, z', m'), some [(0, .row 0), (1, .row 1), (2, .row 6), (3, .row 3), (4, .row 4), (5, .row 5)], (by (refine ⟨rfl, rfl, ?_, ?_⟩ <;> ((repeat' (first | exact trivial | exact rfl | refine And.intro ?_ ?_)) <;> (try ((conv => whnf); first | refine vint ?_ | refine vboo ?_ | refine rint ?_ | refine rrow ?_ | skip)) <;> (try first | omega | (simp; done) | ((repeat rw [flts_closed _ (by assumption)]); exact vws_closed _ (by assumption)))))), ⟨by simp only; omega, by simp only; omega, hz', by rw [hm', hm], h4'⟩, by simp only; omega⟩
          · have h6 := of_decide_eq_false h6
            conv => whnf
            refine ACallS.tmut 0 (one_spec code hc a7 s7 (by omega) 4 (by omega) (by omega)) ?_ rfl (by (repeat' (first | exact trivial | exact rfl | refine And.intro ?_ ?_)) <;> (try first | omega | (simp; done))) (by (repeat' (first | exact trivial | exact rfl | refine And.intro ?_ ?_)) <;> (try first | omega | (simp; done)))
            rintro v r ⟨b2, a8, s8, rfl, e_a8, g_a8, rfl⟩
            conv => whnf
            refine ⟨fun hb2 => ?_, fun hb2 => ?_⟩
            · conv => whnf
              refine ACall.use' (NoiseBox_g nx ny h x3 y3) ?_
              rintro v h' (⟨mn, hmn, h4n, rfl, rfl⟩ | ⟨rfl, rfl⟩)
              · (repeat (conv => whnf); (first | refine ⟨fun h => absurd h (by decide), fun _ => ?_⟩ | refine ⟨fun _ => ?_, fun h => absurd h (by decide)⟩)); conv => whnf
                refine ACallS.tmut 0 (one_spec code hc a8 s8 (by omega) 4 (by omega) (by omega)) ?_ rfl (by (repeat' (first | exact trivial | exact rfl | refine And.intro ?_ ?_)) <;> (try first | omega | (simp; done))) (by (repeat' (first | exact trivial | exact rfl | refine And.intro ?_ ?_)) <;> (try first | omega | (simp; done)))
                rintro v r ⟨bn, a9, s9, rfl, e_a9, g_a9, rfl⟩
                conv => whnf
                refine ⟨fun hb => ?_, fun hb => ?_⟩
                · conv => whnf
                  refine ACall.use' (l2Mix_g nx ny zf nx ny 4 mf mn (by omega) (fun r hr => (h4f r hr).1) (by omega) (fun r hr => (h4n r hr).1)) ?_
                  rintro v h' ⟨z9, m9, hz9, hm9, h49, rfl, rfl⟩
                  conv => whnf
                  exact ⟨z9, m9, a9, s9, hz9, by rw [hm9, hmf], h49, rfl, rfl, by omega, by omega, rfl⟩
                · conv => whnf
                  exact ⟨zf, mf, a9, s9, hzf, hmf, h4f, rfl, rfl, by omega, by omega, rfl⟩
              · conv => whnf
                (repeat (conv => whnf); (first | refine ⟨fun h => absurd h (by decide), fun _ => ?_⟩ | refine ⟨fun _ => ?_, fun h => absurd h (by decide)⟩)); conv => whnf
                exact ⟨zf, mf, a8, s8, hzf, hmf, h4f, rfl, rfl, by omega, by omega, rfl⟩
            · conv => whnf
              refine ACall.use' (NoiseBox_g nx ny h x3 y3) ?_
              rintro v h' (⟨mn, hmn, h4n, rfl, rfl⟩ | ⟨rfl, rfl⟩)
              · (repeat (conv => whnf); (first | refine ⟨fun h => absurd h (by decide), fun _ => ?_⟩ | refine ⟨fun _ => ?_, fun h => absurd h (by decide)⟩)); conv => whnf
                refine ACallS.tmut 0 (one_spec code hc a8 s8 (by omega) 4 (by omega) (by omega)) ?_ rfl (by (repeat' (first | exact trivial | exact rfl | refine And.intro ?_ ?_)) <;> (try first | omega | (simp; done))) (by (repeat' (first | exact trivial | exact rfl | refine And.intro ?_ ?_)) <;> (try first | omega | (simp; done)))
                rintro v r ⟨bn, a9, s9, rfl, e_a9, g_a9, rfl⟩
                conv => whnf
                refine ⟨fun hb => ?_, fun hb => ?_⟩
                · conv => whnf
                  refine ACall.use' (l2Mix_g nx ny z nx ny 4 m mn (by omega) (fun r hr => (h4 r hr).1) (by omega) (fun r hr => (h4n r hr).1)) ?_
                  rintro v h' ⟨z9, m9, hz9, hm9, h49, rfl, rfl⟩
                  conv => whnf
                  exact ⟨z9, m9, a9, s9, hz9, by rw [hm9, hm], h49, rfl, rfl, by omega, by omega, rfl⟩
                · conv => whnf
                  exact ⟨z, m, a9, s9, hz, hm, h4, rfl, rfl, by omega, by omega, rfl⟩
              · conv => whnf
                (repeat (conv => whnf); (first | refine ⟨fun h => absurd h (by decide), fun _ => ?_⟩ | refine ⟨fun _ => ?_, fun h => absurd h (by decide)⟩)); conv => whnf
                exact ⟨z, m, a8, s8, hz, hm, h4, rfl, rfl, by omega, by omega, rfl⟩
        · conv => whnf
          refine ACall.use' (NoiseBox_g nx ny h x3 y3) ?_
          rintro v h' (⟨mn, hmn, h4n, rfl, rfl⟩ | ⟨rfl, rfl⟩)
          · (repeat (conv => whnf); (first | refine ⟨fun h => absurd h (by decide), fun _ => ?_⟩ | refine ⟨fun _ => ?_, fun h => absurd h (by decide)⟩)); conv => whnf
            refine ACallS.tmut 0 (one_spec code hc a5 s5 (by omega) 4 (by omega) (by omega)) ?_ rfl (by (repeat' (first | exact trivial | exact rfl | refine And.intro ?_ ?_)) <;> (try first | omega | (simp; done))) (by (repeat' (first | exact trivial | exact rfl | refine And.intro ?_ ?_)) <;> (try first | omega | (simp; done)))
            rintro v r ⟨bn, a9, s9, rfl, e_a9, g_a9, rfl⟩
            conv => whnf
            refine ⟨fun hb => ?_, fun hb => ?_⟩
            · conv => whnf
              refine ACall.use' (l2Mix_g nx ny z nx ny 4 m mn (by omega) (fun r hr => (h4 r hr).1) (by omega) (fun r hr => (h4n r hr).1)) ?_
              rintro v h' ⟨z9, m9, hz9, hm9, h49, rfl, rfl⟩
              conv => whnf
              exact ⟨z9, m9, a9, s9, hz9, by rw [hm9, hm], h49, rfl, rfl, by omega, by omega, rfl⟩
            · conv => whnf
              exact ⟨z, m, a9, s9, hz, hm, h4, rfl, rfl, by omega, by omega, rfl⟩
          · conv => whnf
            (repeat (conv => whnf); (first | refine ⟨fun h => absurd h (by decide), fun _ => ?_⟩ | refine ⟨fun _ => ?_, fun h => absurd h (by decide)⟩)); conv => whnf
            exact ⟨z, m, a5, s5, hz, hm, h4, rfl, rfl, by omega, by omega, rfl⟩
end Go.Proofs.Ytkomndcehdneaaa
/- Draws of boxes that may be spoilt. -/
namespace Go.Proofs.Ytkomndcehdneaaa
open Go.Aw
set_option maxRecDepth 100000
set_option maxHeartbeats 4000000

/-- a drawn box -/
def SmB (m : List (List Int)) : Prop := m.length ≤ 17 ∧ ∀ r, r ∈ m → r.length ≤ 4 ∧ ∀ v, v ∈ r → InR v
theorem R4.sm {m : List (List Int)} {n : Nat} (h : R4 m) (hn : m.length = n) (h16 : n ≤ 16) : SmB m := ⟨by omega, fun r hr => ⟨by have := (h r hr).1; omega, (h r hr).2⟩⟩
theorem SmB.nil : SmB [] := ⟨by simp, fun _ h => by simp at h⟩
theorem R4.smSet {m : List (List Int)} {n : Nat} (h : R4 m) (hn : m.length = n) (h16 : n ≤ 16) (i : Nat) {l : List Int} (hlv : l.length ≤ 4 ∧ ∀ v, v ∈ l → InR v) : SmB (m.set i l) := by
  obtain ⟨hl, hv⟩ := hlv
  refine ⟨by rw [List.length_set]; omega, fun r hr => ?_⟩
  rcases List.mem_or_eq_of_mem_set hr with h1 | rfl
  · exact ⟨by have := (h r h1).1; omega, (h r h1).2⟩
  · exact ⟨hl, hv⟩
theorem R4.smApp {m : List (List Int)} {n : Nat} (h : R4 m) (hn : m.length = n) (h16 : n ≤ 16) {l : List Int} (hlv : l.length ≤ 4 ∧ ∀ v, v ∈ l → InR v) : SmB (m ++ [l]) := by
  obtain ⟨hl, hv⟩ := hlv
  refine ⟨by rw [List.length_append, List.length_singleton]; omega, fun r hr => ?_⟩
  rcases List.mem_append.1 hr with h1 | h1
  · exact ⟨by have := (h r h1).1; omega, (h r h1).2⟩
  · rw [List.mem_singleton] at h1; subst h1; exact ⟨hl, hv⟩
def drawnBx (code : List Int) (a k : Nat) (v : AVal) (r : ARow) : Prop :=
  ∃ (x y z : Int) (m : List (List Int)) (a' : Nat) (s' : Int), v = .ag [.c (.int .i64 x), .c (.int .i64 y), .c (.int .i64 z), .t (.rows m)] ∧ InR x ∧ InR y ∧ InR z ∧ SmB m ∧ a ≤ a' ∧ a' ≤ a + k ∧ r = cur code a' s'
/-- .. or nothing -/
def drawnBp (code : List Int) (a k : Nat) (v : AVal) (r : ARow) : Prop := drawnBx code a k v r ∨
  ∃ (a' : Nat) (s' : Int), v = .ag [.c (.int .i64 0), .c (.int .i64 0), .c (.int .i64 0), .c (.slice none 0 0)] ∧ a ≤ a' ∧ a' ≤ a + k ∧ r = cur code a' s'
theorem drawnB_tell {f : FuncId} {r0 : ARow} {args : List AVal} {code : List Int} {a k : Nat} (h : TSpec Try.prog f r0 args (drawnBp code a k)) : TSpec Try.prog f r0 args (drawnBx code a k) := by
  refine TSpec.tell h (fun x r hs hp => ?_)
  rcases hp with hp | ⟨a', s', rfl, e1, e2, rfl⟩
  · exact ⟨x, hs, hp, fun _ _ _ h => h⟩
  · refine ⟨.ag [.c (.int .i64 0), .c (.int .i64 0), .c (.int .i64 0), .t (.rows [])], rfl, ⟨0, 0, 0, [], a', s', rfl, inr0, inr0, inr0, SmB.nil, e1, e2, rfl⟩, ?_⟩
    rintro w bad v ⟨cs, rfl, hv⟩
    match cs, hv with
    | [v0, v1, v2, v3], ⟨h0, h1, h2, h3, _⟩ => exact ⟨[v0, v1, v2, v3], rfl, h0, h1, h2, rep_nilR h3, trivial⟩

theorem le4 {l : List Int} (h : l.length = 4 ∧ ∀ v, v ∈ l → InR v) : l.length ≤ 4 ∧ ∀ v, v ∈ l → InR v := ⟨by omega, h.2⟩
theorem sp3 {z : Int} (hz : InR z) : ((((List.replicate 3 (0 : Int)).set 0 z).set 1 0).set 2 0).length ≤ 4 ∧ ∀ v, v ∈ ((((List.replicate 3 (0 : Int)).set 0 z).set 1 0).set 2 0) → InR v := by
  refine ⟨by simp, fun v hv => ?_⟩
  have hv : v ∈ ([z, 0, 0] : List Int) := hv
  simp only [List.mem_cons, List.not_mem_nil, or_false] at hv
  rcases hv with rfl | rfl | rfl
  · exact hz
  · exact inr0
  · exact inr0
theorem sp_in (z : Int) : rowIn (((((List.replicate 4 (0 : Int)).set 0 0).set 1 (-1)).set 2 1001).set 3 (IntKind.i64.wrap (z + 1))) (-9223372036854775808) 9223372036854775807 = true := by
  refine rowIn_iff.2 (fun v hv => ?_)
  have hv : v ∈ ([0, -1, 1001, IntKind.i64.wrap (z + 1)] : List Int) := hv
  have h := W_inr (z + 1)
  unfold InR at h
  simp only [List.mem_cons, List.not_mem_nil, or_false] at hv
  rcases hv with rfl | rfl | rfl | rfl
  · omega
  · omega
  · omega
  · exact h

theorem quietBox_spec (code : List Int) (hc : OkB code) (a : Nat) (s : Int) (ha : a ≤ 600000000) :
    TSpec Try.prog 251 (cur code a s) [.ptr 0 0] (drawnBx code a 1100) := by
  refine drawnB_tell ?_
  refine tspec tyOk mx Try.func251 rfl (by kernel_rfl) rfl rfl ?_
  conv => whnf
  refine ACallS.tmut 0 (sizes_spec code hc a s (by omega)) ?_ rfl (by (repeat' (first | exact trivial | exact rfl | refine And.intro ?_ ?_)) <;> (try first | omega | (simp; done))) (by (repeat' (first | exact trivial | exact rfl | refine And.intro ?_ ?_)) <;> (try first | omega | (simp; done)))
  rintro v r ⟨x, y, a1, s1, rfl, hx, hy, e1, g1, rfl⟩
  have nxy : near x * near y ≤ 4 * 4 := Nat.mul_le_mul (near_le x) (near_le y)
  conv => whnf
  refine ACallS.tmut 0 (one_spec code hc a1 s1 (by omega) 8 (by omega) (by omega)) ?_ rfl (by (repeat' (first | exact trivial | exact rfl | refine And.intro ?_ ?_)) <;> (try first | omega | (simp; done))) (by (repeat' (first | exact trivial | exact rfl | refine And.intro ?_ ?_)) <;> (try first | omega | (simp; done)))
  rintro v r ⟨b, a2, s2, rfl, e_a2, g_a2, rfl⟩
  conv => whnf
  refine ⟨fun hb => ?_, fun hb => ?_⟩
  · conv => whnf
    refine ACallS.omut 0 (someBox_spec code hc a2 s2 (by omega) x y) ?_ rfl (by (repeat' (first | exact trivial | exact rfl | refine And.intro ?_ ?_)) <;> (try first | omega | (simp; done))) (by (repeat' (first | exact trivial | exact rfl | refine And.intro ?_ ?_)) <;> (try first | omega | (simp; done)))
    rintro v h r ⟨z, m, a3, s3, hz, hm, h4, rfl, rfl, e3, g3, rfl⟩
    conv => whnf
    refine ACallS.inline tyOk mx Try.func219 rfl (by kernel_rfl) rfl ?_
    conv => whnf
    refine ACallS.tmut 0 (pick_spec code hc a3 s3 (by omega) 50 (by omega) (by omega)) ?_ rfl (by (repeat' (first | exact trivial | exact rfl | refine And.intro ?_ ?_)) <;> (try first | omega | (simp; done))) (by (repeat' (first | exact trivial | exact rfl | refine And.intro ?_ ?_)) <;> (try first | omega | (simp; done)))
    rintro v r ⟨c, a4, s4, rfl, l_c, u_c, e_a4, g_a4, rfl⟩
    conv => whnf
    refine ⟨fun h0 => ?_, fun h0 => ?_⟩
    · conv => whnf
      refine ACallS.give ?_
      refine ACallS.tmutL (among_spec code hc a4 s4 (by omega) _ (by kernel_rfl) (-9223372036854775808) 9223372036854775807 (sp_in z)) ?_ rfl (by (repeat' (first | exact trivial | exact rfl | refine And.intro ?_ ?_)) <;> (try first | omega | (simp; done)))
      rintro v r ⟨q, a5, s5, rfl, lq, uq, e5, g5, rfl⟩
      conv => whnf
      refine ⟨rfl, ?_⟩
      conv => whnf
      exact .inl ⟨x, y, q, m, a5, s5, rfl, hx, hy, ⟨lq, uq⟩, h4.sm hm nxy, by omega, by omega, rfl⟩
    · conv => whnf
      refine ⟨fun h1 => ?_, fun h1 => ?_⟩
      · conv => whnf
        refine ⟨fun hp => ?_, fun hp => ?_⟩
        · have hp : 0 < (m).length := by have := of_decide_eq_true hp; omega
          conv => whnf
          refine ⟨0, rfl, hp, ?_⟩
          conv => whnf
          refine ⟨fun hl => ?_, fun hl => ?_⟩
          · have hl : ((m).getD 0 []).length = 4 := by have := beq_iff_eq.1 hl; omega
            have hr4 := h4 _ (getD_mem (d := []) hp)
            refine ADraw.plan tyOk mx (.q 0 (.q 1 (.q 2 (.q 3 (.q 4 (.q 5 (.q 6 (.q 7 (.q 8 (.q 9 (.q 10 (.q 11 (.q 12 (.q 13 (.q 14 (.q 15 (.q 16 (.q 17 (.q 18 (.q 19 (.q 20 (.q 21 (.q 22 (.q 23 (.q 24 (.q 25 (.q 26 (.q 27 (.last 28 (.q 29 (.last 30 (.done))))))))))))))))))))))))))))))) : Plan) (by kernel_rfl) ?_
            conv => whnf
            repeat' (first
              | (refine ⟨rfl, ?_⟩; (conv => whnf); exact .inl ⟨x, y, z, List.set m 0 _, a4, s4, rfl, hx, hy, hz, h4.smSet hm nxy 0 (le4 (set4 (set4 (set4 (set4 rep4 _ (W_inr _)) _ (W_inr _)) _ (getI hr4.2 _)) _ (getI hr4.2 _))), by omega, by omega, rfl⟩; done)
              | (refine ⟨0, rfl, by omega, ?_⟩; conv => whnf)
              | (refine ⟨1, rfl, by omega, ?_⟩; conv => whnf)
              | (refine ⟨2, rfl, by omega, ?_⟩; conv => whnf)
              | (refine ⟨3, rfl, by omega, ?_⟩; conv => whnf)
              | (refine And.intro ?_ ?_ <;> (conv => whnf)))
          · (repeat (conv => whnf); (first | refine ⟨fun h => absurd h (by decide), fun _ => ?_⟩ | refine ⟨fun _ => ?_, fun h => absurd h (by decide)⟩)); conv => whnf
            refine ⟨rfl, ?_⟩
            conv => whnf
            exact .inl ⟨x, y, z, m, a4, s4, rfl, hx, hy, hz, h4.sm hm nxy, by omega, by omega, rfl⟩
        · (repeat (conv => whnf); (first | refine ⟨fun h => absurd h (by decide), fun _ => ?_⟩ | refine ⟨fun _ => ?_, fun h => absurd h (by decide)⟩)); conv => whnf
          refine ⟨rfl, ?_⟩
          conv => whnf
          exact .inl ⟨x, y, z, m, a4, s4, rfl, hx, hy, hz, h4.sm hm nxy, by omega, by omega, rfl⟩
      · conv => whnf
        refine ⟨fun h2 => ?_, fun h2 => ?_⟩
        · conv => whnf
          refine ⟨by simp [room]; omega, ?_⟩
          conv => whnf
          refine ⟨rfl, ?_⟩
          conv => whnf
          exact .inl ⟨x, y, z, m ++ [_], a4, s4, rfl, hx, hy, hz, h4.smApp hm nxy (le4 (set4 (set4 (set4 (set4 rep4 _ (by unfold InR; omega)) _ inr0) _ inr0) _ inr0)), by omega, by omega, rfl⟩
        · conv => whnf
          refine ⟨fun h3 => ?_, fun h3 => ?_⟩
          · conv => whnf
            refine ⟨fun hp => ?_, fun hp => ?_⟩
            · have hp : 0 < (m).length := by have := of_decide_eq_true hp; omega
              conv => whnf
              refine ⟨0, rfl, hp, ?_⟩
              conv => whnf
              refine ⟨rfl, ?_⟩
              conv => whnf
              exact .inl ⟨x, y, z, List.set m 0 _, a4, s4, rfl, hx, hy, hz, h4.smSet hm nxy 0 (sp3 hz), by omega, by omega, rfl⟩
            · conv => whnf
              refine ⟨rfl, ?_⟩
              conv => whnf
              exact .inl ⟨x, y, z, m, a4, s4, rfl, hx, hy, hz, h4.sm hm nxy, by omega, by omega, rfl⟩
          · conv => whnf
            refine ⟨fun h5 => ?_, fun h5 => ?_⟩
            · conv => whnf
              refine ⟨rfl, ?_⟩
              conv => whnf
              exact .inr ⟨a4, s4, rfl, by omega, by omega, rfl⟩
            · conv => whnf
              refine ⟨rfl, ?_⟩
              conv => whnf
              exact .inl ⟨x, y, z, m, a4, s4, rfl, hx, hy, hz, h4.sm hm nxy, by omega, by omega, rfl⟩
  · conv => whnf
    refine ACallS.omut 0 (quietOf_spec code hc a2 s2 (by omega) x y) ?_ rfl (by (repeat' (first | exact trivial | exact rfl | refine And.intro ?_ ?_)) <;> (try first | omega | (simp; done))) (by (repeat' (first | exact trivial | exact rfl | refine And.intro ?_ ?_)) <;> (try first | omega | (simp; done)))
    rintro v h r ⟨z, m, a3, s3, hz, hm, h4, rfl, rfl, e3, g3, rfl⟩
    conv => whnf
    refine ACallS.inline tyOk mx Try.func219 rfl (by kernel_rfl) rfl ?_
    conv => whnf
    refine ACallS.tmut 0 (pick_spec code hc a3 s3 (by omega) 50 (by omega) (by omega)) ?_ rfl (by (repeat' (first | exact trivial | exact rfl | refine And.intro ?_ ?_)) <;> (try first | omega | (simp; done))) (by (repeat' (first | exact trivial | exact rfl | refine And.intro ?_ ?_)) <;> (try first | omega | (simp; done)))
    rintro v r ⟨c, a4, s4, rfl, l_c, u_c, e_a4, g_a4, rfl⟩
    conv => whnf
    refine ⟨fun h0 => ?_, fun h0 => ?_⟩
    · conv => whnf
      refine ACallS.give ?_
      refine ACallS.tmutL (among_spec code hc a4 s4 (by omega) _ (by kernel_rfl) (-9223372036854775808) 9223372036854775807 (sp_in z)) ?_ rfl (by (repeat' (first | exact trivial | exact rfl | refine And.intro ?_ ?_)) <;> (try first | omega | (simp; done)))
      rintro v r ⟨q, a5, s5, rfl, lq, uq, e5, g5, rfl⟩
      conv => whnf
      refine ⟨rfl, ?_⟩
      conv => whnf
      exact .inl ⟨x, y, q, m, a5, s5, rfl, hx, hy, ⟨lq, uq⟩, h4.sm hm nxy, by omega, by omega, rfl⟩
    · conv => whnf
      refine ⟨fun h1 => ?_, fun h1 => ?_⟩
      · conv => whnf
        refine ⟨fun hp => ?_, fun hp => ?_⟩
        · have hp : 0 < (m).length := by have := of_decide_eq_true hp; omega
          conv => whnf
          refine ⟨0, rfl, hp, ?_⟩
          conv => whnf
          refine ⟨fun hl => ?_, fun hl => ?_⟩
          · have hl : ((m).getD 0 []).length = 4 := by have := beq_iff_eq.1 hl; omega
            have hr4 := h4 _ (getD_mem (d := []) hp)
            refine ADraw.plan tyOk mx (.q 0 (.q 1 (.q 2 (.q 3 (.q 4 (.q 5 (.q 6 (.q 7 (.q 8 (.q 9 (.q 10 (.q 11 (.q 12 (.q 13 (.q 14 (.q 15 (.q 16 (.q 17 (.q 18 (.q 19 (.q 20 (.q 21 (.q 22 (.q 23 (.q 24 (.q 25 (.q 26 (.q 27 (.last 28 (.q 29 (.last 30 (.done))))))))))))))))))))))))))))))) : Plan) (by kernel_rfl) ?_
            conv => whnf
            repeat' (first
              | (refine ⟨rfl, ?_⟩; (conv => whnf); exact .inl ⟨x, y, z, List.set m 0 _, a4, s4, rfl, hx, hy, hz, h4.smSet hm nxy 0 (le4 (set4 (set4 (set4 (set4 rep4 _ (W_inr _)) _ (W_inr _)) _ (getI hr4.2 _)) _ (getI hr4.2 _))), by omega, by omega, rfl⟩; done)
              | (refine ⟨0, rfl, by omega, ?_⟩; conv => whnf)
              | (refine ⟨1, rfl, by omega, ?_⟩; conv => whnf)
              | (refine ⟨2, rfl, by omega, ?_⟩; conv => whnf)
              | (refine ⟨3, rfl, by omega, ?_⟩; conv => whnf)
              | (refine And.intro ?_ ?_ <;> (conv => whnf)))
          · (repeat (conv => whnf); (first | refine ⟨fun h => absurd h (by decide), fun _ => ?_⟩ | refine ⟨fun _ => ?_, fun h => absurd h (by decide)⟩)); conv => whnf
            refine ⟨rfl, ?_⟩
            conv => whnf
            exact .inl ⟨x, y, z, m, a4, s4, rfl, hx, hy, hz, h4.sm hm nxy, by omega, by omega, rfl⟩
        · (repeat (conv => whnf); (first | refine ⟨fun h => absurd h (by decide), fun _ => ?_⟩ | refine ⟨fun _ => ?_, fun h => absurd h (by decide)⟩)); conv => whnf
          refine ⟨rfl, ?_⟩
          conv => whnf
          exact .inl ⟨x, y, z, m, a4, s4, rfl, hx, hy, hz, h4.sm hm nxy, by omega, by omega, rfl⟩
      · conv => whnf
        refine ⟨fun h2 => ?_, fun h2 => ?_⟩
        · conv => whnf
          refine ⟨by simp [room]; omega, ?_⟩
          conv => whnf
          refine ⟨rfl, ?_⟩
          conv => whnf
          exact .inl ⟨x, y, z, m ++ [_], a4, s4, rfl, hx, hy, hz, h4.smApp hm nxy (le4 (set4 (set4 (set4 (set4 rep4 _ (by unfold InR; omega)) _ inr0) _ inr0) _ inr0)), by omega, by omega, rfl⟩
        · conv => whnf
          refine ⟨fun h3 => ?_, fun h3 => ?_⟩
          · conv => whnf
            refine ⟨fun hp => ?_, fun hp => ?_⟩
            · have hp : 0 < (m).length := by have := of_decide_eq_true hp; omega
              conv => whnf
              refine ⟨0, rfl, hp, ?_⟩
              conv => whnf
              refine ⟨rfl, ?_⟩
              conv => whnf
              exact .inl ⟨x, y, z, List.set m 0 _, a4, s4, rfl, hx, hy, hz, h4.smSet hm nxy 0 (sp3 hz), by omega, by omega, rfl⟩
            · conv => whnf
              refine ⟨rfl, ?_⟩
              conv => whnf
              exact .inl ⟨x, y, z, m, a4, s4, rfl, hx, hy, hz, h4.sm hm nxy, by omega, by omega, rfl⟩
          · conv => whnf
            refine ⟨fun h5 => ?_, fun h5 => ?_⟩
            · conv => whnf
              refine ⟨rfl, ?_⟩
              conv => whnf
              exact .inr ⟨a4, s4, rfl, by omega, by omega, rfl⟩
            · conv => whnf
              refine ⟨rfl, ?_⟩
              conv => whnf
              exact .inl ⟨x, y, z, m, a4, s4, rfl, hx, hy, hz, h4.sm hm nxy, by omega, by omega, rfl⟩

theorem box_spec (code : List Int) (hc : OkB code) (a : Nat) (s : Int) (ha : a ≤ 600000000) :
    TSpec Try.prog 154 (cur code a s) [.ptr 0 0] (drawnBx code a 1100) := by
  refine drawnB_tell ?_
  refine tspec tyOk mx Try.func154 rfl (by kernel_rfl) rfl rfl ?_
  conv => whnf
  refine ACallS.tmut 0 (sizes_spec code hc a s (by omega)) ?_ rfl (by (repeat' (first | exact trivial | exact rfl | refine And.intro ?_ ?_)) <;> (try first | omega | (simp; done))) (by (repeat' (first | exact trivial | exact rfl | refine And.intro ?_ ?_)) <;> (try first | omega | (simp; done)))
  rintro v r ⟨x, y, a1, s1, rfl, hx, hy, e1, g1, rfl⟩
  have nxy : near x * near y ≤ 4 * 4 := Nat.mul_le_mul (near_le x) (near_le y)
  conv => whnf
  refine ACallS.tmut 0 (one_spec code hc a1 s1 (by omega) 2 (by omega) (by omega)) ?_ rfl (by (repeat' (first | exact trivial | exact rfl | refine And.intro ?_ ?_)) <;> (try first | omega | (simp; done))) (by (repeat' (first | exact trivial | exact rfl | refine And.intro ?_ ?_)) <;> (try first | omega | (simp; done)))
  rintro v r ⟨b, a2, s2, rfl, e_a2, g_a2, rfl⟩
  conv => whnf
  refine ⟨fun hb => ?_, fun hb => ?_⟩
  · conv => whnf
    refine ACallS.omut 0 (someBox_spec code hc a2 s2 (by omega) x y) ?_ rfl (by (repeat' (first | exact trivial | exact rfl | refine And.intro ?_ ?_)) <;> (try first | omega | (simp; done))) (by (repeat' (first | exact trivial | exact rfl | refine And.intro ?_ ?_)) <;> (try first | omega | (simp; done)))
    rintro v h r ⟨z, m, a3, s3, hz, hm, h4, rfl, rfl, e3, g3, rfl⟩
    conv => whnf
    refine ACallS.inline tyOk mx Try.func219 rfl (by kernel_rfl) rfl ?_
    conv => whnf
    refine ACallS.tmut 0 (pick_spec code hc a3 s3 (by omega) 50 (by omega) (by omega)) ?_ rfl (by (repeat' (first | exact trivial | exact rfl | refine And.intro ?_ ?_)) <;> (try first | omega | (simp; done))) (by (repeat' (first | exact trivial | exact rfl | refine And.intro ?_ ?_)) <;> (try first | omega | (simp; done)))
    rintro v r ⟨c, a4, s4, rfl, l_c, u_c, e_a4, g_a4, rfl⟩
    conv => whnf
    refine ⟨fun h0 => ?_, fun h0 => ?_⟩
    · conv => whnf
      refine ACallS.give ?_
      refine ACallS.tmutL (among_spec code hc a4 s4 (by omega) _ (by kernel_rfl) (-9223372036854775808) 9223372036854775807 (sp_in z)) ?_ rfl (by (repeat' (first | exact trivial | exact rfl | refine And.intro ?_ ?_)) <;> (try first | omega | (simp; done)))
      rintro v r ⟨q, a5, s5, rfl, lq, uq, e5, g5, rfl⟩
      conv => whnf
      refine ⟨rfl, ?_⟩
      conv => whnf
      exact .inl ⟨x, y, q, m, a5, s5, rfl, hx, hy, ⟨lq, uq⟩, h4.sm hm nxy, by omega, by omega, rfl⟩
    · conv => whnf
      refine ⟨fun h1 => ?_, fun h1 => ?_⟩
      · conv => whnf
        refine ⟨fun hp => ?_, fun hp => ?_⟩
        · have hp : 0 < (m).length := by have := of_decide_eq_true hp; omega
          conv => whnf
          refine ⟨0, rfl, hp, ?_⟩
          conv => whnf
          refine ⟨fun hl => ?_, fun hl => ?_⟩
          · have hl : ((m).getD 0 []).length = 4 := by have := beq_iff_eq.1 hl; omega
            have hr4 := h4 _ (getD_mem (d := []) hp)
            refine ADraw.plan tyOk mx (.q 0 (.q 1 (.q 2 (.q 3 (.q 4 (.q 5 (.q 6 (.q 7 (.q 8 (.q 9 (.q 10 (.q 11 (.q 12 (.q 13 (.q 14 (.q 15 (.q 16 (.q 17 (.q 18 (.q 19 (.q 20 (.q 21 (.q 22 (.q 23 (.q 24 (.q 25 (.q 26 (.q 27 (.last 28 (.q 29 (.last 30 (.done))))))))))))))))))))))))))))))) : Plan) (by kernel_rfl) ?_
            conv => whnf
            repeat' (first
              | (refine ⟨rfl, ?_⟩; (conv => whnf); exact .inl ⟨x, y, z, List.set m 0 _, a4, s4, rfl, hx, hy, hz, h4.smSet hm nxy 0 (le4 (set4 (set4 (set4 (set4 rep4 _ (W_inr _)) _ (W_inr _)) _ (getI hr4.2 _)) _ (getI hr4.2 _))), by omega, by omega, rfl⟩; done)
              | (refine ⟨0, rfl, by omega, ?_⟩; conv => whnf)
              | (refine ⟨1, rfl, by omega, ?_⟩; conv => whnf)
              | (refine ⟨2, rfl, by omega, ?_⟩; conv => whnf)
              | (refine ⟨3, rfl, by omega, ?_⟩; conv => whnf)
              | (refine And.intro ?_ ?_ <;> (conv => whnf)))
          · (repeat (conv => whnf); (first | refine ⟨fun h => absurd h (by decide), fun _ => ?_⟩ | refine ⟨fun _ => ?_, fun h => absurd h (by decide)⟩)); conv => whnf
            refine ⟨rfl, ?_⟩
            conv => whnf
            exact .inl ⟨x, y, z, m, a4, s4, rfl, hx, hy, hz, h4.sm hm nxy, by omega, by omega, rfl⟩
        · (repeat (conv => whnf); (first | refine ⟨fun h => absurd h (by decide), fun _ => ?_⟩ | refine ⟨fun _ => ?_, fun h => absurd h (by decide)⟩)); conv => whnf
          refine ⟨rfl, ?_⟩
          conv => whnf
          exact .inl ⟨x, y, z, m, a4, s4, rfl, hx, hy, hz, h4.sm hm nxy, by omega, by omega, rfl⟩
      · conv => whnf
        refine ⟨fun h2 => ?_, fun h2 => ?_⟩
        · conv => whnf
          refine ⟨by simp [room]; omega, ?_⟩
          conv => whnf
          refine ⟨rfl, ?_⟩
          conv => whnf
          exact .inl ⟨x, y, z, m ++ [_], a4, s4, rfl, hx, hy, hz, h4.smApp hm nxy (le4 (set4 (set4 (set4 (set4 rep4 _ (by unfold InR; omega)) _ inr0) _ inr0) _ inr0)), by omega, by omega, rfl⟩
        · conv => whnf
          refine ⟨fun h3 => ?_, fun h3 => ?_⟩
          · conv => whnf
            refine ⟨fun hp => ?_, fun hp => ?_⟩
            · have hp : 0 < (m).length := by have := of_decide_eq_true hp; omega
              conv => whnf
              refine ⟨0, rfl, hp, ?_⟩
              conv => whnf
              refine ⟨rfl, ?_⟩
              conv => whnf
              exact .inl ⟨x, y, z, List.set m 0 _, a4, s4, rfl, hx, hy, hz, h4.smSet hm nxy 0 (sp3 hz), by omega, by omega, rfl⟩
            · conv => whnf
              refine ⟨rfl, ?_⟩
              conv => whnf
              exact .inl ⟨x, y, z, m, a4, s4, rfl, hx, hy, hz, h4.sm hm nxy, by omega, by omega, rfl⟩
          · conv => whnf
            refine ⟨fun h5 => ?_, fun h5 => ?_⟩
            · conv => whnf
              refine ⟨rfl, ?_⟩
              conv => whnf
              exact .inr ⟨a4, s4, rfl, by omega, by omega, rfl⟩
            · conv => whnf
              refine ⟨rfl, ?_⟩
              conv => whnf
              exact .inl ⟨x, y, z, m, a4, s4, rfl, hx, hy, hz, h4.sm hm nxy, by omega, by omega, rfl⟩
  · conv => whnf
    refine ACallS.omut 0 (quietOf_spec code hc a2 s2 (by omega) x y) ?_ rfl (by (repeat' (first | exact trivial | exact rfl | refine And.intro ?_ ?_)) <;> (try first | omega | (simp; done))) (by (repeat' (first | exact trivial | exact rfl | refine And.intro ?_ ?_)) <;> (try first | omega | (simp; done)))
    rintro v h r ⟨z, m, a3, s3, hz, hm, h4, rfl, rfl, e3, g3, rfl⟩
    conv => whnf
    refine ACallS.inline tyOk mx Try.func219 rfl (by kernel_rfl) rfl ?_
    conv => whnf
    refine ACallS.tmut 0 (pick_spec code hc a3 s3 (by omega) 50 (by omega) (by omega)) ?_ rfl (by (repeat' (first | exact trivial | exact rfl | refine And.intro ?_ ?_)) <;> (try first | omega | (simp; done))) (by (repeat' (first | exact trivial | exact rfl | refine And.intro ?_ ?_)) <;> (try first | omega | (simp; done)))
    rintro v r ⟨c, a4, s4, rfl, l_c, u_c, e_a4, g_a4, rfl⟩
    conv => whnf
    refine ⟨fun h0 => ?_, fun h0 => ?_⟩
    · conv => whnf
      refine ACallS.give ?_
      refine ACallS.tmutL (among_spec code hc a4 s4 (by omega) _ (by kernel_rfl) (-9223372036854775808) 9223372036854775807 (sp_in z)) ?_ rfl (by (repeat' (first | exact trivial | exact rfl | refine And.intro ?_ ?_)) <;> (try first | omega | (simp; done)))
      rintro v r ⟨q, a5, s5, rfl, lq, uq, e5, g5, rfl⟩
      conv => whnf
      refine ⟨rfl, ?_⟩
      conv => whnf
      exact .inl ⟨x, y, q, m, a5, s5, rfl, hx, hy, ⟨lq, uq⟩, h4.sm hm nxy, by omega, by omega, rfl⟩
    · conv => whnf
      refine ⟨fun h1 => ?_, fun h1 => ?_⟩
      · conv => whnf
        refine ⟨fun hp => ?_, fun hp => ?_⟩
        · have hp : 0 < (m).length := by have := of_decide_eq_true hp; omega
          conv => whnf
          refine ⟨0, rfl, hp, ?_⟩
          conv => whnf
          refine ⟨fun hl => ?_, fun hl => ?_⟩
          · have hl : ((m).getD 0 []).length = 4 := by have := beq_iff_eq.1 hl; omega
            have hr4 := h4 _ (getD_mem (d := []) hp)
            refine ADraw.plan tyOk mx (.q 0 (.q 1 (.q 2 (.q 3 (.q 4 (.q 5 (.q 6 (.q 7 (.q 8 (.q 9 (.q 10 (.q 11 (.q 12 (.q 13 (.q 14 (.q 15 (.q 16 (.q 17 (.q 18 (.q 19 (.q 20 (.q 21 (.q 22 (.q 23 (.q 24 (.q 25 (.q 26 (.q 27 (.last 28 (.q 29 (.last 30 (.done))))))))))))))))))))))))))))))) : Plan) (by kernel_rfl) ?_
            conv => whnf
            repeat' (first
              | (refine ⟨rfl, ?_⟩; (conv => whnf); exact .inl ⟨x, y, z, List.set m 0 _, a4, s4, rfl, hx, hy, hz, h4.smSet hm nxy 0 (le4 (set4 (set4 (set4 (set4 rep4 _ (W_inr _)) _ (W_inr _)) _ (getI hr4.2 _)) _ (getI hr4.2 _))), by omega, by omega, rfl⟩; done)
              | (refine ⟨0, rfl, by omega, ?_⟩; conv => whnf)
              | (refine ⟨1, rfl, by omega, ?_⟩; conv => whnf)
              | (refine ⟨2, rfl, by omega, ?_⟩; conv => whnf)
              | (refine ⟨3, rfl, by omega, ?_⟩; conv => whnf)
              | (refine And.intro ?_ ?_ <;> (conv => whnf)))
          · (repeat (conv => whnf); (first | refine ⟨fun h => absurd h (by decide), fun _ => ?_⟩ | refine ⟨fun _ => ?_, fun h => absurd h (by decide)⟩)); conv => whnf
            refine ⟨rfl, ?_⟩
            conv => whnf
            exact .inl ⟨x, y, z, m, a4, s4, rfl, hx, hy, hz, h4.sm hm nxy, by omega, by omega, rfl⟩
        · (repeat (conv => whnf); (first | refine ⟨fun h => absurd h (by decide), fun _ => ?_⟩ | refine ⟨fun _ => ?_, fun h => absurd h (by decide)⟩)); conv => whnf
          refine ⟨rfl, ?_⟩
          conv => whnf
          exact .inl ⟨x, y, z, m, a4, s4, rfl, hx, hy, hz, h4.sm hm nxy, by omega, by omega, rfl⟩
      · conv => whnf
        refine ⟨fun h2 => ?_, fun h2 => ?_⟩
        · conv => whnf
          refine ⟨by simp [room]; omega, ?_⟩
          conv => whnf
          refine ⟨rfl, ?_⟩
          conv => whnf
          exact .inl ⟨x, y, z, m ++ [_], a4, s4, rfl, hx, hy, hz, h4.smApp hm nxy (le4 (set4 (set4 (set4 (set4 rep4 _ (by unfold InR; omega)) _ inr0) _ inr0) _ inr0)), by omega, by omega, rfl⟩
        · conv => whnf
          refine ⟨fun h3 => ?_, fun h3 => ?_⟩
          · conv => whnf
            refine ⟨fun hp => ?_, fun hp => ?_⟩
            · have hp : 0 < (m).length := by have := of_decide_eq_true hp; omega
              conv => whnf
              refine ⟨0, rfl, hp, ?_⟩
              conv => whnf
              refine ⟨rfl, ?_⟩
              conv => whnf
              exact .inl ⟨x, y, z, List.set m 0 _, a4, s4, rfl, hx, hy, hz, h4.smSet hm nxy 0 (sp3 hz), by omega, by omega, rfl⟩
            · conv => whnf
              refine ⟨rfl, ?_⟩
              conv => whnf
              exact .inl ⟨x, y, z, m, a4, s4, rfl, hx, hy, hz, h4.sm hm nxy, by omega, by omega, rfl⟩
          · conv => whnf
            refine ⟨fun h5 => ?_, fun h5 => ?_⟩
            · conv => whnf
              refine ⟨rfl, ?_⟩
              conv => whnf
              exact .inr ⟨a4, s4, rfl, by omega, by omega, rfl⟩
            · conv => whnf
              refine ⟨rfl, ?_⟩
              conv => whnf
              exact .inl ⟨x, y, z, m, a4, s4, rfl, hx, hy, hz, h4.sm hm nxy, by omega, by omega, rfl⟩
end Go.Proofs.Ytkomndcehdneaaa
/- Draws of quiet boxes with two questions each. -/
namespace Go.Proofs.Ytkomndcehdneaaa
open Go.Aw
set_option maxRecDepth 100000
set_option maxHeartbeats 4000000

theorem inr2 : InR 2 := by unfold InR; omega
theorem box_R4 {f : Nat → Nat → Nat → Nat → Int} (h : ∀ x y a b, InR (f x y a b)) : R4 (boxRows f 2 2) := fun r hr => by
  refine ⟨boxRows_rows f 2 2 r hr, fun v hv => ?_⟩
  rw [mat_rows] at hr
  obtain ⟨p, _, rfl⟩ := List.mem_map.1 hr
  obtain ⟨q, _, rfl⟩ := List.mem_map.1 hv
  exact h _ _ _ _
theorem equal_R4 (k : Int) : R4 (equalM k) := box_R4 fun _ _ _ _ => W_inr _
theorem equal_len (k : Int) : (equalM k).length = 4 := boxRows_len _ 2 2
theorem ns_R4 (k sh no : Int) : R4 (nsM k sh no) := box_R4 fun _ _ _ _ => W_inr _
theorem ex_R4 {i : Nat} (hi : i < 24) : R4 (exRow i) := by
  have : ∀ i : Nat, i < 24 → (exRow i).all (fun r => decide (r.length = 4) && rowIn r 0 2) = true := by decide +kernel
  intro r hr
  have h := List.all_eq_true.1 (this i hi) r hr
  simp only [Bool.and_eq_true, decide_eq_true_eq] at h
  exact ⟨h.1, fun v hv => by have := rowIn_iff.1 h.2 v hv; unfold InR; omega⟩
theorem R4.times {m : List (List Int)} (h : R4 m) (k d : Int) : R4 (timesL m k d) := fun r hr => by
  obtain ⟨q, hq, rfl⟩ := List.mem_map.1 hr
  refine ⟨by unfold timesR; rw [List.length_map]; exact (h q hq).1, fun v hv => ?_⟩
  obtain ⟨u, _, rfl⟩ := List.mem_map.1 hv
  exact W_inr _

theorem quietTwo_spec (code : List Int) (hc : OkB code) (a : Nat) (s : Int) (ha : a ≤ 500000000) :
    TSpec Try.prog 188 (cur code a s) [.ptr 0 0] (drawnBx code a 1200) := by
  refine drawnB_tell ?_
  refine tspec tyOk mx Try.func188 rfl (by kernel_rfl) rfl rfl ?_
  conv => whnf
  refine ACallS.tmut 0 (pick_spec code hc a s (by omega) 12 (by omega) (by omega)) ?_ rfl (by (repeat' (first | exact trivial | exact rfl | refine And.intro ?_ ?_)) <;> (try first | omega | (simp; done))) (by (repeat' (first | exact trivial | exact rfl | refine And.intro ?_ ?_)) <;> (try first | omega | (simp; done)))
  rintro v r ⟨c, a1, s1, rfl, l_c, u_c, e_a1, g_a1, rfl⟩
  conv => whnf
  refine ⟨fun c0 => ?_, fun c0 => ?_⟩
  · conv => whnf
    refine ACallS.omut 0 (someBox_spec code hc a1 s1 (by omega) 2 2) ?_ rfl (by (repeat' (first | exact trivial | exact rfl | refine And.intro ?_ ?_)) <;> (try first | omega | (simp; done))) (by (repeat' (first | exact trivial | exact rfl | refine And.intro ?_ ?_)) <;> (try first | omega | (simp; done)))
    rintro v h r ⟨z, m, a3, s3, hz, hm, h4, rfl, rfl, e3, g3, rfl⟩
    have hm : m.length = 4 := hm
    conv => whnf
    refine ACallS.inline tyOk mx Try.func219 rfl (by kernel_rfl) rfl ?_
    conv => whnf
    refine ACallS.tmut 0 (pick_spec code hc a3 s3 (by omega) 50 (by omega) (by omega)) ?_ rfl (by (repeat' (first | exact trivial | exact rfl | refine And.intro ?_ ?_)) <;> (try first | omega | (simp; done))) (by (repeat' (first | exact trivial | exact rfl | refine And.intro ?_ ?_)) <;> (try first | omega | (simp; done)))
    rintro v r ⟨c, a4, s4, rfl, l_c, u_c, e_a4, g_a4, rfl⟩
    conv => whnf
    refine ⟨fun h0 => ?_, fun h0 => ?_⟩
    · conv => whnf
      refine ACallS.give ?_
      refine ACallS.tmutL (among_spec code hc a4 s4 (by omega) _ (by kernel_rfl) (-9223372036854775808) 9223372036854775807 (sp_in z)) ?_ rfl (by (repeat' (first | exact trivial | exact rfl | refine And.intro ?_ ?_)) <;> (try first | omega | (simp; done)))
      rintro v r ⟨q, a5, s5, rfl, lq, uq, e5, g5, rfl⟩
      conv => whnf
      refine ⟨rfl, ?_⟩
      conv => whnf
      exact .inl ⟨2, 2, q, m, a5, s5, rfl, inr2, inr2, ⟨lq, uq⟩, h4.sm hm (by omega), by omega, by omega, rfl⟩
    · conv => whnf
      refine ⟨fun h1 => ?_, fun h1 => ?_⟩
      · conv => whnf
        refine ⟨fun hp => ?_, fun hp => ?_⟩
        · have hp : 0 < (m).length := by have := of_decide_eq_true hp; omega
          conv => whnf
          refine ⟨0, rfl, hp, ?_⟩
          conv => whnf
          refine ⟨fun hl => ?_, fun hl => ?_⟩
          · have hl : ((m).getD 0 []).length = 4 := by have := beq_iff_eq.1 hl; omega
            have hr4 := h4 _ (getD_mem (d := []) hp)
            refine ADraw.plan tyOk mx (.q 0 (.q 1 (.q 2 (.q 3 (.q 4 (.q 5 (.q 6 (.q 7 (.q 8 (.q 9 (.q 10 (.q 11 (.q 12 (.q 13 (.q 14 (.q 15 (.q 16 (.q 17 (.q 18 (.q 19 (.q 20 (.q 21 (.q 22 (.q 23 (.q 24 (.q 25 (.q 26 (.q 27 (.last 28 (.q 29 (.last 30 (.done))))))))))))))))))))))))))))))) : Plan) (by kernel_rfl) ?_
            conv => whnf
            repeat' (first
              | (refine ⟨rfl, ?_⟩; (conv => whnf); exact .inl ⟨2, 2, z, List.set m 0 _, a4, s4, rfl, inr2, inr2, hz, h4.smSet hm (by omega) 0 (le4 (set4 (set4 (set4 (set4 rep4 _ (W_inr _)) _ (W_inr _)) _ (getI hr4.2 _)) _ (getI hr4.2 _))), by omega, by omega, rfl⟩; done)
              | (refine ⟨0, rfl, by omega, ?_⟩; conv => whnf)
              | (refine ⟨1, rfl, by omega, ?_⟩; conv => whnf)
              | (refine ⟨2, rfl, by omega, ?_⟩; conv => whnf)
              | (refine ⟨3, rfl, by omega, ?_⟩; conv => whnf)
              | (refine And.intro ?_ ?_ <;> (conv => whnf)))
          · (repeat (conv => whnf); (first | refine ⟨fun h => absurd h (by decide), fun _ => ?_⟩ | refine ⟨fun _ => ?_, fun h => absurd h (by decide)⟩)); conv => whnf
            refine ⟨rfl, ?_⟩
            conv => whnf
            exact .inl ⟨2, 2, z, m, a4, s4, rfl, inr2, inr2, hz, h4.sm hm (by omega), by omega, by omega, rfl⟩
        · (repeat (conv => whnf); (first | refine ⟨fun h => absurd h (by decide), fun _ => ?_⟩ | refine ⟨fun _ => ?_, fun h => absurd h (by decide)⟩)); conv => whnf
          refine ⟨rfl, ?_⟩
          conv => whnf
          exact .inl ⟨2, 2, z, m, a4, s4, rfl, inr2, inr2, hz, h4.sm hm (by omega), by omega, by omega, rfl⟩
      · conv => whnf
        refine ⟨fun h2 => ?_, fun h2 => ?_⟩
        · conv => whnf
          refine ⟨by simp [room]; omega, ?_⟩
          conv => whnf
          refine ⟨rfl, ?_⟩
          conv => whnf
          exact .inl ⟨2, 2, z, m ++ [_], a4, s4, rfl, inr2, inr2, hz, h4.smApp hm (by omega) (le4 (set4 (set4 (set4 (set4 rep4 _ (by unfold InR; omega)) _ inr0) _ inr0) _ inr0)), by omega, by omega, rfl⟩
        · conv => whnf
          refine ⟨fun h3 => ?_, fun h3 => ?_⟩
          · conv => whnf
            refine ⟨fun hp => ?_, fun hp => ?_⟩
            · have hp : 0 < (m).length := by have := of_decide_eq_true hp; omega
              conv => whnf
              refine ⟨0, rfl, hp, ?_⟩
              conv => whnf
              refine ⟨rfl, ?_⟩
              conv => whnf
              exact .inl ⟨2, 2, z, List.set m 0 _, a4, s4, rfl, inr2, inr2, hz, h4.smSet hm (by omega) 0 (sp3 hz), by omega, by omega, rfl⟩
            · conv => whnf
              refine ⟨rfl, ?_⟩
              conv => whnf
              exact .inl ⟨2, 2, z, m, a4, s4, rfl, inr2, inr2, hz, h4.sm hm (by omega), by omega, by omega, rfl⟩
          · conv => whnf
            refine ⟨fun h5 => ?_, fun h5 => ?_⟩
            · conv => whnf
              refine ⟨rfl, ?_⟩
              conv => whnf
              exact .inr ⟨a4, s4, rfl, by omega, by omega, rfl⟩
            · conv => whnf
              refine ⟨rfl, ?_⟩
              conv => whnf
              exact .inl ⟨2, 2, z, m, a4, s4, rfl, inr2, inr2, hz, h4.sm hm (by omega), by omega, by omega, rfl⟩
  · conv => whnf
    refine ⟨fun c1 => ?_, fun c1 => ?_⟩
    · conv => whnf
      refine ACallS.tmut 0 (quietBox_spec code hc a1 s1 (by omega)) ?_ rfl (by (repeat' (first | exact trivial | exact rfl | refine And.intro ?_ ?_)) <;> (try first | omega | (simp; done))) (by (repeat' (first | exact trivial | exact rfl | refine And.intro ?_ ?_)) <;> (try first | omega | (simp; done)))
      rintro v r ⟨x, y, z, m, a2, s2, rfl, hx, hy, hz, hm, e2, g2, rfl⟩
      conv => whnf
      exact .inl ⟨x, y, z, m, a2, s2, rfl, hx, hy, hz, hm, by omega, by omega, rfl⟩
    · conv => whnf
      refine ⟨fun c2 => ?_, fun c2 => ?_⟩
      · conv => whnf
        refine ADraw.planX [2, 6] tyOk mx (.q 1 (.q 5 (.last 0 (.inl 2 (.q 3 (.alt 4 (.inl 6 (.last 7 (.last 8 (.last 9 (.done))))) (.inl 6 (.alt 4 (.last 7 (.last 8 (.last 9 (.done)))) (.last 7 (.last 4 (.last 8 (.last 9 (.done)))))))))))) : Plan) (by kernel_rfl) ?_
        conv => whnf
        repeat' (first
          | (refine ACall.useR l6Extremes_spec ?_; conv => whnf)
          | (refine ACallS.tmutI (pick_spec code hc _ _ (by omega) 24 (by omega) (by omega)) ?_ rfl (by (repeat' (first | exact trivial | exact rfl | refine And.intro ?_ ?_)) <;> (try first | omega | (simp; done))); rintro v r ⟨i, a2, s2, rfl, l_i, u_i, e_a2, g_a2, rfl⟩; (conv => whnf))
          | (refine ACallS.tmutI (pick_spec code hc _ _ (by omega) 3 (by omega) (by omega)) ?_ rfl (by (repeat' (first | exact trivial | exact rfl | refine And.intro ?_ ?_)) <;> (try first | omega | (simp; done))); rintro v r ⟨t, a4, s4, rfl, l_t, u_t, e_a4, g_a4, rfl⟩; (conv => whnf))
          | (obtain ⟨i, rfl, hi⟩ := nat_of (len := 24) l_i (by omega); refine ⟨i, rfl, by rw [exL_len]; exact hi, ?_⟩; conv => whnf)
          | (rw [exL_get hi]; refine ACall.useR (l2Times_spec 2 2 2 (exRow i) _ 1 (by decide) (by rw [exRow_len]; omega) (fun r hr => by rw [(ex_R4 hi r hr).1]; omega)) ?_; conv => whnf)
          | (refine .inl ⟨2, 2, _, _, a4, s4, rfl, inr2, inr2, W_inr _, (R4.times (ex_R4 hi) _ _).sm rfl (by rw [timesL_len, exRow_len]; omega), by omega, by omega, rfl⟩; done)
          | (refine And.intro ?_ ?_ <;> (conv => whnf)))
      · conv => whnf
        refine ⟨fun c3 => ?_, fun c3 => ?_⟩
        · conv => whnf
          refine ⟨fun _ => ?_, fun h => absurd (c3.symm.trans h) (by decide)⟩
          conv => whnf
          refine ACallS.tmut 0 (pick_spec code hc a1 s1 (by omega) 8 (by omega) (by omega)) ?_ rfl (by (repeat' (first | exact trivial | exact rfl | refine And.intro ?_ ?_)) <;> (try first | omega | (simp; done))) (by (repeat' (first | exact trivial | exact rfl | refine And.intro ?_ ?_)) <;> (try first | omega | (simp; done)))
          rintro v r ⟨k, b1, t1, rfl, l_k, u_k, e_b1, g_b1, rfl⟩
          conv => whnf
          refine ACallS.tmut 0 (pick_spec code hc b1 t1 (by omega) 6 (by omega) (by omega)) ?_ rfl (by (repeat' (first | exact trivial | exact rfl | refine And.intro ?_ ?_)) <;> (try first | omega | (simp; done))) (by (repeat' (first | exact trivial | exact rfl | refine And.intro ?_ ?_)) <;> (try first | omega | (simp; done)))
          rintro v r ⟨sh, b2, t2, rfl, l_sh, u_sh, e_b2, g_b2, rfl⟩
          conv => whnf
          refine ACallS.tmut 0 (pick_spec code hc b2 t2 (by omega) 3 (by omega) (by omega)) ?_ rfl (by (repeat' (first | exact trivial | exact rfl | refine And.intro ?_ ?_)) <;> (try first | omega | (simp; done))) (by (repeat' (first | exact trivial | exact rfl | refine And.intro ?_ ?_)) <;> (try first | omega | (simp; done)))
          rintro v r ⟨no, b3, t3, rfl, l_no, u_no, e_b3, g_b3, rfl⟩
          conv => whnf
          refine ACall.use (NoisySum_s k (by unfold InR; omega) sh (by unfold InR; omega) no (by unfold InR; omega)) ?_
          conv => whnf
          refine ⟨fun hns => ?_, fun hns => ?_⟩
          · conv => whnf
            rw [if_pos hns, if_pos hns, nsR, if_pos hns]
            exact .inl ⟨2, 2, nsW sh no, nsM k sh no, b3, t3, rfl, inr2, inr2, W_inr _, (ns_R4 k sh no).sm (boxRows_len _ 2 2) (by omega), by omega, by omega, rfl⟩
          · conv => whnf
            refine ACallS.omut 0 (quietOf_spec code hc b3 t3 (by omega) 2 2) ?_ rfl (by (repeat' (first | exact trivial | exact rfl | refine And.intro ?_ ?_)) <;> (try first | omega | (simp; done))) (by (repeat' (first | exact trivial | exact rfl | refine And.intro ?_ ?_)) <;> (try first | omega | (simp; done)))
            rintro v h r ⟨z, m, a3, s3, hz, hm, h4, rfl, rfl, e3, g3, rfl⟩
            have hm : m.length = 4 := hm
            conv => whnf
            refine ACallS.tmut 0 (one_spec code hc a3 s3 (by omega) 3 (by omega) (by omega)) ?_ rfl (by (repeat' (first | exact trivial | exact rfl | refine And.intro ?_ ?_)) <;> (try first | omega | (simp; done))) (by (repeat' (first | exact trivial | exact rfl | refine And.intro ?_ ?_)) <;> (try first | omega | (simp; done)))
            rintro v r ⟨b1, a5, s5, rfl, e_a5, g_a5, rfl⟩
            conv => whnf
            refine ⟨fun hb1 => ?_, fun hb1 => ?_⟩
            · conv => whnf
              refine ADraw.planX [2, 5] tyOk mx (.q 1 (.q 4 (.alt 0 (.inl 2 (.last 3 (.inl 5 (.last 6 (.last 7 (.last 8 (.last 9 (.done)))))))) (.inl 2 (.alt 0 (.last 3 (.inl 5 (.last 6 (.last 7 (.last 8 (.last 9 (.done))))))) (.last 3 (.alt 0 (.inl 5 (.last 6 (.last 7 (.last 8 (.last 9 (.done)))))) (.inl 5 (.alt 0 (.last 6 (.last 7 (.last 8 (.last 9 (.done))))) (.last 6 (.alt 0 (.last 7 (.last 8 (.last 9 (.done)))) (.last 7 (.last 0 (.last 8 (.last 9 (.done))))))))))))))) : Plan) (by kernel_rfl) ?_
              conv => whnf
              repeat' (first
                | (refine ACallS.tmutI (pick_spec code hc _ _ (by omega) 8 (by omega) (by omega)) ?_ rfl (by (repeat' (first | exact trivial | exact rfl | refine And.intro ?_ ?_)) <;> (try first | omega | (simp; done))); rintro v r ⟨k, a6, s6, rfl, l_k, u_k, e_a6, g_a6, rfl⟩; (conv => whnf))
                | (refine ACallS.tmutI (pick_spec code hc _ _ (by omega) 6 (by omega) (by omega)) ?_ rfl (by (repeat' (first | exact trivial | exact rfl | refine And.intro ?_ ?_)) <;> (try first | omega | (simp; done))); rintro v r ⟨t, a7, s7, rfl, l_t, u_t, e_a7, g_a7, rfl⟩; (conv => whnf))
                | (obtain ⟨i, rfl, hi⟩ := nat_of (len := 8) l_k (by omega); refine ACall.useR (l6Sum_spec i hi) ?_; conv => whnf)
                | (refine ACall.useR (l2Times_spec 2 2 2 (equalM i) _ 1 (by decide) (by rw [equal_len]; omega) (fun r hr => by rw [(equal_R4 i r hr).1]; omega)) ?_; conv => whnf)
                | (refine ACall.useR' (l2Mix_g 2 2 z 2 2 _ m (timesL (equalM i) _ 1) (by omega) (fun r hr => (h4 r hr).1) (by rw [timesL_len, equal_len]; omega) (fun r hr => (R4.times (equal_R4 i) _ _ r hr).1)) ?_; rintro v h ⟨z', m', hz', hm', h4', rfl, rfl⟩; conv => whnf)
                | (refine And.intro ?_ ?_ <;> (conv => whnf)))
              all_goals
                refine ACallS.inline tyOk mx Try.func219 rfl (by kernel_rfl) rfl ?_
                conv => whnf
                refine ACallS.tmut 0 (pick_spec code hc a7 s7 (by omega) 50 (by omega) (by omega)) ?_ rfl (by (repeat' (first | exact trivial | exact rfl | refine And.intro ?_ ?_)) <;> (try first | omega | (simp; done))) (by (repeat' (first | exact trivial | exact rfl | refine And.intro ?_ ?_)) <;> (try first | omega | (simp; done)))
                rintro v r ⟨c, a4, s4, rfl, l_c, u_c, e_a4, g_a4, rfl⟩
                conv => whnf
                refine ⟨fun h0 => ?_, fun h0 => ?_⟩
                · conv => whnf
                  refine ACallS.give ?_
                  refine ACallS.tmutL (among_spec code hc a4 s4 (by omega) _ (by kernel_rfl) (-9223372036854775808) 9223372036854775807 (sp_in z')) ?_ rfl (by (repeat' (first | exact trivial | exact rfl | refine And.intro ?_ ?_)) <;> (try first | omega | (simp; done)))
                  rintro v r ⟨q, a5, s5, rfl, lq, uq, e5, g5, rfl⟩
                  conv => whnf
                  refine ⟨rfl, ?_⟩
                  conv => whnf
                  exact .inl ⟨2, 2, q, m', a5, s5, rfl, inr2, inr2, ⟨lq, uq⟩, h4'.sm hm' (by omega), by omega, by omega, rfl⟩
                · conv => whnf
                  refine ⟨fun h1 => ?_, fun h1 => ?_⟩
                  · conv => whnf
                    refine ⟨fun hp => ?_, fun hp => ?_⟩
                    · have hp : 0 < (m').length := by have := of_decide_eq_true hp; omega
                      conv => whnf
                      refine ⟨0, rfl, hp, ?_⟩
                      conv => whnf
                      refine ⟨fun hl => ?_, fun hl => ?_⟩
                      · have hl : ((m').getD 0 []).length = 4 := by have := beq_iff_eq.1 hl; omega
                        have hr4 := h4' _ (getD_mem (d := []) hp)
                        refine ADraw.plan tyOk mx (.q 0 (.q 1 (.q 2 (.q 3 (.q 4 (.q 5 (.q 6 (.q 7 (.q 8 (.q 9 (.q 10 (.q 11 (.q 12 (.q 13 (.q 14 (.q 15 (.q 16 (.q 17 (.q 18 (.q 19 (.q 20 (.q 21 (.q 22 (.q 23 (.q 24 (.q 25 (.q 26 (.q 27 (.last 28 (.q 29 (.last 30 (.done))))))))))))))))))))))))))))))) : Plan) (by kernel_rfl) ?_
                        conv => whnf
                        repeat' (first
                          | (refine ⟨rfl, ?_⟩; (conv => whnf); exact .inl ⟨2, 2, z', List.set m' 0 _, a4, s4, rfl, inr2, inr2, hz', h4'.smSet hm' (by omega) 0 (le4 (set4 (set4 (set4 (set4 rep4 _ (W_inr _)) _ (W_inr _)) _ (getI hr4.2 _)) _ (getI hr4.2 _))), by omega, by omega, rfl⟩; done)
                          | (refine ⟨0, rfl, by omega, ?_⟩; conv => whnf)
                          | (refine ⟨1, rfl, by omega, ?_⟩; conv => whnf)
                          | (refine ⟨2, rfl, by omega, ?_⟩; conv => whnf)
                          | (refine ⟨3, rfl, by omega, ?_⟩; conv => whnf)
                          | (refine And.intro ?_ ?_ <;> (conv => whnf)))
                      · (repeat (conv => whnf); (first | refine ⟨fun h => absurd h (by decide), fun _ => ?_⟩ | refine ⟨fun _ => ?_, fun h => absurd h (by decide)⟩)); conv => whnf
                        refine ⟨rfl, ?_⟩
                        conv => whnf
                        exact .inl ⟨2, 2, z', m', a4, s4, rfl, inr2, inr2, hz', h4'.sm hm' (by omega), by omega, by omega, rfl⟩
                    · (repeat (conv => whnf); (first | refine ⟨fun h => absurd h (by decide), fun _ => ?_⟩ | refine ⟨fun _ => ?_, fun h => absurd h (by decide)⟩)); conv => whnf
                      refine ⟨rfl, ?_⟩
                      conv => whnf
                      exact .inl ⟨2, 2, z', m', a4, s4, rfl, inr2, inr2, hz', h4'.sm hm' (by omega), by omega, by omega, rfl⟩
                  · conv => whnf
                    refine ⟨fun h2 => ?_, fun h2 => ?_⟩
                    · conv => whnf
                      refine ⟨by simp [room]; omega, ?_⟩
                      conv => whnf
                      refine ⟨rfl, ?_⟩
                      conv => whnf
                      exact .inl ⟨2, 2, z', m' ++ [_], a4, s4, rfl, inr2, inr2, hz', h4'.smApp hm' (by omega) (le4 (set4 (set4 (set4 (set4 rep4 _ (by unfold InR; omega)) _ inr0) _ inr0) _ inr0)), by omega, by omega, rfl⟩
                    · conv => whnf
                      refine ⟨fun h3 => ?_, fun h3 => ?_⟩
                      · conv => whnf
                        refine ⟨fun hp => ?_, fun hp => ?_⟩
                        · have hp : 0 < (m').length := by have := of_decide_eq_true hp; omega
                          conv => whnf
                          refine ⟨0, rfl, hp, ?_⟩
                          conv => whnf
                          refine ⟨rfl, ?_⟩
                          conv => whnf
                          exact .inl ⟨2, 2, z', List.set m' 0 _, a4, s4, rfl, inr2, inr2, hz', h4'.smSet hm' (by omega) 0 (sp3 hz'), by omega, by omega, rfl⟩
                        · conv => whnf
                          refine ⟨rfl, ?_⟩
                          conv => whnf
                          exact .inl ⟨2, 2, z', m', a4, s4, rfl, inr2, inr2, hz', h4'.sm hm' (by omega), by omega, by omega, rfl⟩
                      · conv => whnf
                        refine ⟨fun h5 => ?_, fun h5 => ?_⟩
                        · conv => whnf
                          refine ⟨rfl, ?_⟩
                          conv => whnf
                          exact .inr ⟨a4, s4, rfl, by omega, by omega, rfl⟩
                        · conv => whnf
                          refine ⟨rfl, ?_⟩
                          conv => whnf
                          exact .inl ⟨2, 2, z', m', a4, s4, rfl, inr2, inr2, hz', h4'.sm hm' (by omega), by omega, by omega, rfl⟩
            · conv => whnf
              refine ACallS.inline tyOk mx Try.func219 rfl (by kernel_rfl) rfl ?_
              conv => whnf
              refine ACallS.tmut 0 (pick_spec code hc a5 s5 (by omega) 50 (by omega) (by omega)) ?_ rfl (by (repeat' (first | exact trivial | exact rfl | refine And.intro ?_ ?_)) <;> (try first | omega | (simp; done))) (by (repeat' (first | exact trivial | exact rfl | refine And.intro ?_ ?_)) <;> (try first | omega | (simp; done)))
              rintro v r ⟨c, a4, s4, rfl, l_c, u_c, e_a4, g_a4, rfl⟩
              conv => whnf
              refine ⟨fun h0 => ?_, fun h0 => ?_⟩
              · conv => whnf
                refine ACallS.give ?_
                refine ACallS.tmutL (among_spec code hc a4 s4 (by omega) _ (by kernel_rfl) (-9223372036854775808) 9223372036854775807 (sp_in z)) ?_ rfl (by (repeat' (first | exact trivial | exact rfl | refine And.intro ?_ ?_)) <;> (try first | omega | (simp; done)))
                rintro v r ⟨q, a5, s5, rfl, lq, uq, e5, g5, rfl⟩
                conv => whnf
                refine ⟨rfl, ?_⟩
                conv => whnf
                exact .inl ⟨2, 2, q, m, a5, s5, rfl, inr2, inr2, ⟨lq, uq⟩, h4.sm hm (by omega), by omega, by omega, rfl⟩
              · conv => whnf
                refine ⟨fun h1 => ?_, fun h1 => ?_⟩
                · conv => whnf
                  refine ⟨fun hp => ?_, fun hp => ?_⟩
                  · have hp : 0 < (m).length := by have := of_decide_eq_true hp; omega
                    conv => whnf
                    refine ⟨0, rfl, hp, ?_⟩
                    conv => whnf
                    refine ⟨fun hl => ?_, fun hl => ?_⟩
                    · have hl : ((m).getD 0 []).length = 4 := by have := beq_iff_eq.1 hl; omega
                      have hr4 := h4 _ (getD_mem (d := []) hp)
                      refine ADraw.plan tyOk mx (.q 0 (.q 1 (.q 2 (.q 3 (.q 4 (.q 5 (.q 6 (.q 7 (.q 8 (.q 9 (.q 10 (.q 11 (.q 12 (.q 13 (.q 14 (.q 15 (.q 16 (.q 17 (.q 18 (.q 19 (.q 20 (.q 21 (.q 22 (.q 23 (.q 24 (.q 25 (.q 26 (.q 27 (.last 28 (.q 29 (.last 30 (.done))))))))))))))))))))))))))))))) : Plan) (by kernel_rfl) ?_
                      conv => whnf
                      repeat' (first
                        | (refine ⟨rfl, ?_⟩; (conv => whnf); exact .inl ⟨2, 2, z, List.set m 0 _, a4, s4, rfl, inr2, inr2, hz, h4.smSet hm (by omega) 0 (le4 (set4 (set4 (set4 (set4 rep4 _ (W_inr _)) _ (W_inr _)) _ (getI hr4.2 _)) _ (getI hr4.2 _))), by omega, by omega, rfl⟩; done)
                        | (refine ⟨0, rfl, by omega, ?_⟩; conv => whnf)
                        | (refine ⟨1, rfl, by omega, ?_⟩; conv => whnf)
                        | (refine ⟨2, rfl, by omega, ?_⟩; conv => whnf)
                        | (refine ⟨3, rfl, by omega, ?_⟩; conv => whnf)
                        | (refine And.intro ?_ ?_ <;> (conv => whnf)))
                    · (repeat (conv => whnf); (first | refine ⟨fun h => absurd h (by decide), fun _ => ?_⟩ | refine ⟨fun _ => ?_, fun h => absurd h (by decide)⟩)); conv => whnf
                      refine ⟨rfl, ?_⟩
                      conv => whnf
                      exact .inl ⟨2, 2, z, m, a4, s4, rfl, inr2, inr2, hz, h4.sm hm (by omega), by omega, by omega, rfl⟩
                  · (repeat (conv => whnf); (first | refine ⟨fun h => absurd h (by decide), fun _ => ?_⟩ | refine ⟨fun _ => ?_, fun h => absurd h (by decide)⟩)); conv => whnf
                    refine ⟨rfl, ?_⟩
                    conv => whnf
                    exact .inl ⟨2, 2, z, m, a4, s4, rfl, inr2, inr2, hz, h4.sm hm (by omega), by omega, by omega, rfl⟩
                · conv => whnf
                  refine ⟨fun h2 => ?_, fun h2 => ?_⟩
                  · conv => whnf
                    refine ⟨by simp [room]; omega, ?_⟩
                    conv => whnf
                    refine ⟨rfl, ?_⟩
                    conv => whnf
                    exact .inl ⟨2, 2, z, m ++ [_], a4, s4, rfl, inr2, inr2, hz, h4.smApp hm (by omega) (le4 (set4 (set4 (set4 (set4 rep4 _ (by unfold InR; omega)) _ inr0) _ inr0) _ inr0)), by omega, by omega, rfl⟩
                  · conv => whnf
                    refine ⟨fun h3 => ?_, fun h3 => ?_⟩
                    · conv => whnf
                      refine ⟨fun hp => ?_, fun hp => ?_⟩
                      · have hp : 0 < (m).length := by have := of_decide_eq_true hp; omega
                        conv => whnf
                        refine ⟨0, rfl, hp, ?_⟩
                        conv => whnf
                        refine ⟨rfl, ?_⟩
                        conv => whnf
                        exact .inl ⟨2, 2, z, List.set m 0 _, a4, s4, rfl, inr2, inr2, hz, h4.smSet hm (by omega) 0 (sp3 hz), by omega, by omega, rfl⟩
                      · conv => whnf
                        refine ⟨rfl, ?_⟩
                        conv => whnf
                        exact .inl ⟨2, 2, z, m, a4, s4, rfl, inr2, inr2, hz, h4.sm hm (by omega), by omega, by omega, rfl⟩
                    · conv => whnf
                      refine ⟨fun h5 => ?_, fun h5 => ?_⟩
                      · conv => whnf
                        refine ⟨rfl, ?_⟩
                        conv => whnf
                        exact .inr ⟨a4, s4, rfl, by omega, by omega, rfl⟩
                      · conv => whnf
                        refine ⟨rfl, ?_⟩
                        conv => whnf
                        exact .inl ⟨2, 2, z, m, a4, s4, rfl, inr2, inr2, hz, h4.sm hm (by omega), by omega, by omega, rfl⟩
        · conv => whnf
          refine ⟨fun c4 => ?_, fun c4 => ?_⟩
          · (repeat (conv => whnf); (first | refine ⟨fun h => absurd h (by decide), fun _ => ?_⟩ | refine ⟨fun _ => ?_, fun h => absurd h (by decide)⟩)); conv => whnf
            refine ACallS.tmut 0 (pick_spec code hc a1 s1 (by omega) 8 (by omega) (by omega)) ?_ rfl (by (repeat' (first | exact trivial | exact rfl | refine And.intro ?_ ?_)) <;> (try first | omega | (simp; done))) (by (repeat' (first | exact trivial | exact rfl | refine And.intro ?_ ?_)) <;> (try first | omega | (simp; done)))
            rintro v r ⟨k, b1, t1, rfl, l_k, u_k, e_b1, g_b1, rfl⟩
            conv => whnf
            refine ACallS.tmut 0 (pick_spec code hc b1 t1 (by omega) 6 (by omega) (by omega)) ?_ rfl (by (repeat' (first | exact trivial | exact rfl | refine And.intro ?_ ?_)) <;> (try first | omega | (simp; done))) (by (repeat' (first | exact trivial | exact rfl | refine And.intro ?_ ?_)) <;> (try first | omega | (simp; done)))
            rintro v r ⟨sh, b2, t2, rfl, l_sh, u_sh, e_b2, g_b2, rfl⟩
            conv => whnf
            refine ACallS.tmut 0 (pick_spec code hc b2 t2 (by omega) 3 (by omega) (by omega)) ?_ rfl (by (repeat' (first | exact trivial | exact rfl | refine And.intro ?_ ?_)) <;> (try first | omega | (simp; done))) (by (repeat' (first | exact trivial | exact rfl | refine And.intro ?_ ?_)) <;> (try first | omega | (simp; done)))
            rintro v r ⟨no, b3, t3, rfl, l_no, u_no, e_b3, g_b3, rfl⟩
            conv => whnf
            refine ACall.use (NoisySum_s k (by unfold InR; omega) sh (by unfold InR; omega) no (by unfold InR; omega)) ?_
            conv => whnf
            refine ⟨fun hns => ?_, fun hns => ?_⟩
            · conv => whnf
              rw [if_pos hns, if_pos hns, nsR, if_pos hns]
              exact .inl ⟨2, 2, nsW sh no, nsM k sh no, b3, t3, rfl, inr2, inr2, W_inr _, (ns_R4 k sh no).sm (boxRows_len _ 2 2) (by omega), by omega, by omega, rfl⟩
            · conv => whnf
              refine ACallS.omut 0 (quietOf_spec code hc b3 t3 (by omega) 2 2) ?_ rfl (by (repeat' (first | exact trivial | exact rfl | refine And.intro ?_ ?_)) <;> (try first | omega | (simp; done))) (by (repeat' (first | exact trivial | exact rfl | refine And.intro ?_ ?_)) <;> (try first | omega | (simp; done)))
              rintro v h r ⟨z, m, a3, s3, hz, hm, h4, rfl, rfl, e3, g3, rfl⟩
              have hm : m.length = 4 := hm
              conv => whnf
              refine ACallS.tmut 0 (one_spec code hc a3 s3 (by omega) 3 (by omega) (by omega)) ?_ rfl (by (repeat' (first | exact trivial | exact rfl | refine And.intro ?_ ?_)) <;> (try first | omega | (simp; done))) (by (repeat' (first | exact trivial | exact rfl | refine And.intro ?_ ?_)) <;> (try first | omega | (simp; done)))
              rintro v r ⟨b1, a5, s5, rfl, e_a5, g_a5, rfl⟩
              conv => whnf
              refine ⟨fun hb1 => ?_, fun hb1 => ?_⟩
              · conv => whnf
                refine ADraw.planX [2, 5] tyOk mx (.q 1 (.q 4 (.alt 0 (.inl 2 (.last 3 (.inl 5 (.last 6 (.last 7 (.last 8 (.last 9 (.done)))))))) (.inl 2 (.alt 0 (.last 3 (.inl 5 (.last 6 (.last 7 (.last 8 (.last 9 (.done))))))) (.last 3 (.alt 0 (.inl 5 (.last 6 (.last 7 (.last 8 (.last 9 (.done)))))) (.inl 5 (.alt 0 (.last 6 (.last 7 (.last 8 (.last 9 (.done))))) (.last 6 (.alt 0 (.last 7 (.last 8 (.last 9 (.done)))) (.last 7 (.last 0 (.last 8 (.last 9 (.done))))))))))))))) : Plan) (by kernel_rfl) ?_
                conv => whnf
                repeat' (first
                  | (refine ACallS.tmutI (pick_spec code hc _ _ (by omega) 8 (by omega) (by omega)) ?_ rfl (by (repeat' (first | exact trivial | exact rfl | refine And.intro ?_ ?_)) <;> (try first | omega | (simp; done))); rintro v r ⟨k, a6, s6, rfl, l_k, u_k, e_a6, g_a6, rfl⟩; (conv => whnf))
                  | (refine ACallS.tmutI (pick_spec code hc _ _ (by omega) 6 (by omega) (by omega)) ?_ rfl (by (repeat' (first | exact trivial | exact rfl | refine And.intro ?_ ?_)) <;> (try first | omega | (simp; done))); rintro v r ⟨t, a7, s7, rfl, l_t, u_t, e_a7, g_a7, rfl⟩; (conv => whnf))
                  | (obtain ⟨i, rfl, hi⟩ := nat_of (len := 8) l_k (by omega); refine ACall.useR (l6Sum_spec i hi) ?_; conv => whnf)
                  | (refine ACall.useR (l2Times_spec 2 2 2 (equalM i) _ 1 (by decide) (by rw [equal_len]; omega) (fun r hr => by rw [(equal_R4 i r hr).1]; omega)) ?_; conv => whnf)
                  | (refine ACall.useR' (l2Mix_g 2 2 z 2 2 _ m (timesL (equalM i) _ 1) (by omega) (fun r hr => (h4 r hr).1) (by rw [timesL_len, equal_len]; omega) (fun r hr => (R4.times (equal_R4 i) _ _ r hr).1)) ?_; rintro v h ⟨z', m', hz', hm', h4', rfl, rfl⟩; conv => whnf)
                  | (refine And.intro ?_ ?_ <;> (conv => whnf)))
                all_goals
                  refine ACallS.inline tyOk mx Try.func219 rfl (by kernel_rfl) rfl ?_
                  conv => whnf
                  refine ACallS.tmut 0 (pick_spec code hc a7 s7 (by omega) 50 (by omega) (by omega)) ?_ rfl (by (repeat' (first | exact trivial | exact rfl | refine And.intro ?_ ?_)) <;> (try first | omega | (simp; done))) (by (repeat' (first | exact trivial | exact rfl | refine And.intro ?_ ?_)) <;> (try first | omega | (simp; done)))
                  rintro v r ⟨c, a4, s4, rfl, l_c, u_c, e_a4, g_a4, rfl⟩
                  conv => whnf
                  refine ⟨fun h0 => ?_, fun h0 => ?_⟩
                  · conv => whnf
                    refine ACallS.give ?_
                    refine ACallS.tmutL (among_spec code hc a4 s4 (by omega) _ (by kernel_rfl) (-9223372036854775808) 9223372036854775807 (sp_in z')) ?_ rfl (by (repeat' (first | exact trivial | exact rfl | refine And.intro ?_ ?_)) <;> (try first | omega | (simp; done)))
                    rintro v r ⟨q, a5, s5, rfl, lq, uq, e5, g5, rfl⟩
                    conv => whnf
                    refine ⟨rfl, ?_⟩
                    conv => whnf
                    exact .inl ⟨2, 2, q, m', a5, s5, rfl, inr2, inr2, ⟨lq, uq⟩, h4'.sm hm' (by omega), by omega, by omega, rfl⟩
                  · conv => whnf
                    refine ⟨fun h1 => ?_, fun h1 => ?_⟩
                    · conv => whnf
                      refine ⟨fun hp => ?_, fun hp => ?_⟩
                      · have hp : 0 < (m').length := by have := of_decide_eq_true hp; omega
                        conv => whnf
                        refine ⟨0, rfl, hp, ?_⟩
                        conv => whnf
                        refine ⟨fun hl => ?_, fun hl => ?_⟩
                        · have hl : ((m').getD 0 []).length = 4 := by have := beq_iff_eq.1 hl; omega
                          have hr4 := h4' _ (getD_mem (d := []) hp)
                          refine ADraw.plan tyOk mx (.q 0 (.q 1 (.q 2 (.q 3 (.q 4 (.q 5 (.q 6 (.q 7 (.q 8 (.q 9 (.q 10 (.q 11 (.q 12 (.q 13 (.q 14 (.q 15 (.q 16 (.q 17 (.q 18 (.q 19 (.q 20 (.q 21 (.q 22 (.q 23 (.q 24 (.q 25 (.q 26 (.q 27 (.last 28 (.q 29 (.last 30 (.done))))))))))))))))))))))))))))))) : Plan) (by kernel_rfl) ?_
                          conv => whnf
                          repeat' (first
                            | (refine ⟨rfl, ?_⟩; (conv => whnf); exact .inl ⟨2, 2, z', List.set m' 0 _, a4, s4, rfl, inr2, inr2, hz', h4'.smSet hm' (by omega) 0 (le4 (set4 (set4 (set4 (set4 rep4 _ (W_inr _)) _ (W_inr _)) _ (getI hr4.2 _)) _ (getI hr4.2 _))), by omega, by omega, rfl⟩; done)
                            | (refine ⟨0, rfl, by omega, ?_⟩; conv => whnf)
                            | (refine ⟨1, rfl, by omega, ?_⟩; conv => whnf)
                            | (refine ⟨2, rfl, by omega, ?_⟩; conv => whnf)
                            | (refine ⟨3, rfl, by omega, ?_⟩; conv => whnf)
                            | (refine And.intro ?_ ?_ <;> (conv => whnf)))
                        · (repeat (conv => whnf); (first | refine ⟨fun h => absurd h (by decide), fun _ => ?_⟩ | refine ⟨fun _ => ?_, fun h => absurd h (by decide)⟩)); conv => whnf
                          refine ⟨rfl, ?_⟩
                          conv => whnf
                          exact .inl ⟨2, 2, z', m', a4, s4, rfl, inr2, inr2, hz', h4'.sm hm' (by omega), by omega, by omega, rfl⟩
                      · (repeat (conv => whnf); (first | refine ⟨fun h => absurd h (by decide), fun _ => ?_⟩ | refine ⟨fun _ => ?_, fun h => absurd h (by decide)⟩)); conv => whnf
                        refine ⟨rfl, ?_⟩
                        conv => whnf
                        exact .inl ⟨2, 2, z', m', a4, s4, rfl, inr2, inr2, hz', h4'.sm hm' (by omega), by omega, by omega, rfl⟩
                    · conv => whnf
                      refine ⟨fun h2 => ?_, fun h2 => ?_⟩
                      · conv => whnf
                        refine ⟨by simp [room]; omega, ?_⟩
                        conv => whnf
                        refine ⟨rfl, ?_⟩
                        conv => whnf
                        exact .inl ⟨2, 2, z', m' ++ [_], a4, s4, rfl, inr2, inr2, hz', h4'.smApp hm' (by omega) (le4 (set4 (set4 (set4 (set4 rep4 _ (by unfold InR; omega)) _ inr0) _ inr0) _ inr0)), by omega, by omega, rfl⟩
                      · conv => whnf
                        refine ⟨fun h3 => ?_, fun h3 => ?_⟩
                        · conv => whnf
                          refine ⟨fun hp => ?_, fun hp => ?_⟩
                          · have hp : 0 < (m').length := by have := of_decide_eq_true hp; omega
                            conv => whnf
                            refine ⟨0, rfl, hp, ?_⟩
                            conv => whnf
                            refine ⟨rfl, ?_⟩
                            conv => whnf
                            exact .inl ⟨2, 2, z', List.set m' 0 _, a4, s4, rfl, inr2, inr2, hz', h4'.smSet hm' (by omega) 0 (sp3 hz'), by omega, by omega, rfl⟩
                          · conv => whnf
                            refine ⟨rfl, ?_⟩
                            conv => whnf
                            exact .inl ⟨2, 2, z', m', a4, s4, rfl, inr2, inr2, hz', h4'.sm hm' (by omega), by omega, by omega, rfl⟩
                        · conv => whnf
                          refine ⟨fun h5 => ?_, fun h5 => ?_⟩
                          · conv => whnf
                            refine ⟨rfl, ?_⟩
                            conv => whnf
                            exact .inr ⟨a4, s4, rfl, by omega, by omega, rfl⟩
                          · conv => whnf
                            refine ⟨rfl, ?_⟩
                            conv => whnf
                            exact .inl ⟨2, 2, z', m', a4, s4, rfl, inr2, inr2, hz', h4'.sm hm' (by omega), by omega, by omega, rfl⟩
              · conv => whnf
                refine ACallS.inline tyOk mx Try.func219 rfl (by kernel_rfl) rfl ?_
                conv => whnf
                refine ACallS.tmut 0 (pick_spec code hc a5 s5 (by omega) 50 (by omega) (by omega)) ?_ rfl (by (repeat' (first | exact trivial | exact rfl | refine And.intro ?_ ?_)) <;> (try first | omega | (simp; done))) (by (repeat' (first | exact trivial | exact rfl | refine And.intro ?_ ?_)) <;> (try first | omega | (simp; done)))
                rintro v r ⟨c, a4, s4, rfl, l_c, u_c, e_a4, g_a4, rfl⟩
                conv => whnf
                refine ⟨fun h0 => ?_, fun h0 => ?_⟩
                · conv => whnf
                  refine ACallS.give ?_
                  refine ACallS.tmutL (among_spec code hc a4 s4 (by omega) _ (by kernel_rfl) (-9223372036854775808) 9223372036854775807 (sp_in z)) ?_ rfl (by (repeat' (first | exact trivial | exact rfl | refine And.intro ?_ ?_)) <;> (try first | omega | (simp; done)))
                  rintro v r ⟨q, a5, s5, rfl, lq, uq, e5, g5, rfl⟩
                  conv => whnf
                  refine ⟨rfl, ?_⟩
                  conv => whnf
                  exact .inl ⟨2, 2, q, m, a5, s5, rfl, inr2, inr2, ⟨lq, uq⟩, h4.sm hm (by omega), by omega, by omega, rfl⟩
                · conv => whnf
                  refine ⟨fun h1 => ?_, fun h1 => ?_⟩
                  · conv => whnf
                    refine ⟨fun hp => ?_, fun hp => ?_⟩
                    · have hp : 0 < (m).length := by have := of_decide_eq_true hp; omega
                      conv => whnf
                      refine ⟨0, rfl, hp, ?_⟩
                      conv => whnf
                      refine ⟨fun hl => ?_, fun hl => ?_⟩
                      · have hl : ((m).getD 0 []).length = 4 := by have := beq_iff_eq.1 hl; omega
                        have hr4 := h4 _ (getD_mem (d := []) hp)
                        refine ADraw.plan tyOk mx (.q 0 (.q 1 (.q 2 (.q 3 (.q 4 (.q 5 (.q 6 (.q 7 (.q 8 (.q 9 (.q 10 (.q 11 (.q 12 (.q 13 (.q 14 (.q 15 (.q 16 (.q 17 (.q 18 (.q 19 (.q 20 (.q 21 (.q 22 (.q 23 (.q 24 (.q 25 (.q 26 (.q 27 (.last 28 (.q 29 (.last 30 (.done))))))))))))))))))))))))))))))) : Plan) (by kernel_rfl) ?_
                        conv => whnf
                        repeat' (first
                          | (refine ⟨rfl, ?_⟩; (conv => whnf); exact .inl ⟨2, 2, z, List.set m 0 _, a4, s4, rfl, inr2, inr2, hz, h4.smSet hm (by omega) 0 (le4 (set4 (set4 (set4 (set4 rep4 _ (W_inr _)) _ (W_inr _)) _ (getI hr4.2 _)) _ (getI hr4.2 _))), by omega, by omega, rfl⟩; done)
                          | (refine ⟨0, rfl, by omega, ?_⟩; conv => whnf)
                          | (refine ⟨1, rfl, by omega, ?_⟩; conv => whnf)
                          | (refine ⟨2, rfl, by omega, ?_⟩; conv => whnf)
                          | (refine ⟨3, rfl, by omega, ?_⟩; conv => whnf)
                          | (refine And.intro ?_ ?_ <;> (conv => whnf)))
                      · (repeat (conv => whnf); (first | refine ⟨fun h => absurd h (by decide), fun _ => ?_⟩ | refine ⟨fun _ => ?_, fun h => absurd h (by decide)⟩)); conv => whnf
                        refine ⟨rfl, ?_⟩
                        conv => whnf
                        exact .inl ⟨2, 2, z, m, a4, s4, rfl, inr2, inr2, hz, h4.sm hm (by omega), by omega, by omega, rfl⟩
                    · (repeat (conv => whnf); (first | refine ⟨fun h => absurd h (by decide), fun _ => ?_⟩ | refine ⟨fun _ => ?_, fun h => absurd h (by decide)⟩)); conv => whnf
                      refine ⟨rfl, ?_⟩
                      conv => whnf
                      exact .inl ⟨2, 2, z, m, a4, s4, rfl, inr2, inr2, hz, h4.sm hm (by omega), by omega, by omega, rfl⟩
                  · conv => whnf
                    refine ⟨fun h2 => ?_, fun h2 => ?_⟩
                    · conv => whnf
                      refine ⟨by simp [room]; omega, ?_⟩
                      conv => whnf
                      refine ⟨rfl, ?_⟩
                      conv => whnf
                      exact .inl ⟨2, 2, z, m ++ [_], a4, s4, rfl, inr2, inr2, hz, h4.smApp hm (by omega) (le4 (set4 (set4 (set4 (set4 rep4 _ (by unfold InR; omega)) _ inr0) _ inr0) _ inr0)), by omega, by omega, rfl⟩
                    · conv => whnf
                      refine ⟨fun h3 => ?_, fun h3 => ?_⟩
                      · conv => whnf
                        refine ⟨fun hp => ?_, fun hp => ?_⟩
                        · have hp : 0 < (m).length := by have := of_decide_eq_true hp; omega
                          conv => whnf
                          refine ⟨0, rfl, hp, ?_⟩
                          conv => whnf
                          refine ⟨rfl, ?_⟩
                          conv => whnf
                          exact .inl ⟨2, 2, z, List.set m 0 _, a4, s4, rfl, inr2, inr2, hz, h4.smSet hm (by omega) 0 (sp3 hz), by omega, by omega, rfl⟩
                        · conv => whnf
                          refine ⟨rfl, ?_⟩
                          conv => whnf
                          exact .inl ⟨2, 2, z, m, a4, s4, rfl, inr2, inr2, hz, h4.sm hm (by omega), by omega, by omega, rfl⟩
                      · conv => whnf
                        refine ⟨fun h5 => ?_, fun h5 => ?_⟩
                        · conv => whnf
                          refine ⟨rfl, ?_⟩
                          conv => whnf
                          exact .inr ⟨a4, s4, rfl, by omega, by omega, rfl⟩
                        · conv => whnf
                          refine ⟨rfl, ?_⟩
                          conv => whnf
                          exact .inl ⟨2, 2, z, m, a4, s4, rfl, inr2, inr2, hz, h4.sm hm (by omega), by omega, by omega, rfl⟩
          · (repeat (conv => whnf); (first | refine ⟨fun h => absurd h (by decide), fun _ => ?_⟩ | refine ⟨fun _ => ?_, fun h => absurd h (by decide)⟩)); conv => whnf
            refine ACallS.omut 0 (quietOf_spec code hc a1 s1 (by omega) 2 2) ?_ rfl (by (repeat' (first | exact trivial | exact rfl | refine And.intro ?_ ?_)) <;> (try first | omega | (simp; done))) (by (repeat' (first | exact trivial | exact rfl | refine And.intro ?_ ?_)) <;> (try first | omega | (simp; done)))
            rintro v h r ⟨z, m, a3, s3, hz, hm, h4, rfl, rfl, e3, g3, rfl⟩
            have hm : m.length = 4 := hm
            conv => whnf
            refine ACallS.tmut 0 (one_spec code hc a3 s3 (by omega) 3 (by omega) (by omega)) ?_ rfl (by (repeat' (first | exact trivial | exact rfl | refine And.intro ?_ ?_)) <;> (try first | omega | (simp; done))) (by (repeat' (first | exact trivial | exact rfl | refine And.intro ?_ ?_)) <;> (try first | omega | (simp; done)))
            rintro v r ⟨b1, a5, s5, rfl, e_a5, g_a5, rfl⟩
            conv => whnf
            refine ⟨fun hb1 => ?_, fun hb1 => ?_⟩
            · conv => whnf
              refine ADraw.planX [2, 5] tyOk mx (.q 1 (.q 4 (.alt 0 (.inl 2 (.last 3 (.inl 5 (.last 6 (.last 7 (.last 8 (.last 9 (.done)))))))) (.inl 2 (.alt 0 (.last 3 (.inl 5 (.last 6 (.last 7 (.last 8 (.last 9 (.done))))))) (.last 3 (.alt 0 (.inl 5 (.last 6 (.last 7 (.last 8 (.last 9 (.done)))))) (.inl 5 (.alt 0 (.last 6 (.last 7 (.last 8 (.last 9 (.done))))) (.last 6 (.alt 0 (.last 7 (.last 8 (.last 9 (.done)))) (.last 7 (.last 0 (.last 8 (.last 9 (.done))))))))))))))) : Plan) (by kernel_rfl) ?_
              conv => whnf
              repeat' (first
                | (refine ACallS.tmutI (pick_spec code hc _ _ (by omega) 8 (by omega) (by omega)) ?_ rfl (by (repeat' (first | exact trivial | exact rfl | refine And.intro ?_ ?_)) <;> (try first | omega | (simp; done))); rintro v r ⟨k, a6, s6, rfl, l_k, u_k, e_a6, g_a6, rfl⟩; (conv => whnf))
                | (refine ACallS.tmutI (pick_spec code hc _ _ (by omega) 6 (by omega) (by omega)) ?_ rfl (by (repeat' (first | exact trivial | exact rfl | refine And.intro ?_ ?_)) <;> (try first | omega | (simp; done))); rintro v r ⟨t, a7, s7, rfl, l_t, u_t, e_a7, g_a7, rfl⟩; (conv => whnf))
                | (obtain ⟨i, rfl, hi⟩ := nat_of (len := 8) l_k (by omega); refine ACall.useR (l6Sum_spec i hi) ?_; conv => whnf)
                | (refine ACall.useR (l2Times_spec 2 2 2 (equalM i) _ 1 (by decide) (by rw [equal_len]; omega) (fun r hr => by rw [(equal_R4 i r hr).1]; omega)) ?_; conv => whnf)
                | (refine ACall.useR' (l2Mix_g 2 2 z 2 2 _ m (timesL (equalM i) _ 1) (by omega) (fun r hr => (h4 r hr).1) (by rw [timesL_len, equal_len]; omega) (fun r hr => (R4.times (equal_R4 i) _ _ r hr).1)) ?_; rintro v h ⟨z', m', hz', hm', h4', rfl, rfl⟩; conv => whnf)
                | (refine And.intro ?_ ?_ <;> (conv => whnf)))
              all_goals
                refine ACallS.inline tyOk mx Try.func219 rfl (by kernel_rfl) rfl ?_
                conv => whnf
                refine ACallS.tmut 0 (pick_spec code hc a7 s7 (by omega) 50 (by omega) (by omega)) ?_ rfl (by (repeat' (first | exact trivial | exact rfl | refine And.intro ?_ ?_)) <;> (try first | omega | (simp; done))) (by (repeat' (first | exact trivial | exact rfl | refine And.intro ?_ ?_)) <;> (try first | omega | (simp; done)))
                rintro v r ⟨c, a4, s4, rfl, l_c, u_c, e_a4, g_a4, rfl⟩
                conv => whnf
                refine ⟨fun h0 => ?_, fun h0 => ?_⟩
                · conv => whnf
                  refine ACallS.give ?_
                  refine ACallS.tmutL (among_spec code hc a4 s4 (by omega) _ (by kernel_rfl) (-9223372036854775808) 9223372036854775807 (sp_in z')) ?_ rfl (by (repeat' (first | exact trivial | exact rfl | refine And.intro ?_ ?_)) <;> (try first | omega | (simp; done)))
                  rintro v r ⟨q, a5, s5, rfl, lq, uq, e5, g5, rfl⟩
                  conv => whnf
                  refine ⟨rfl, ?_⟩
                  conv => whnf
                  exact .inl ⟨2, 2, q, m', a5, s5, rfl, inr2, inr2, ⟨lq, uq⟩, h4'.sm hm' (by omega), by omega, by omega, rfl⟩
                · conv => whnf
                  refine ⟨fun h1 => ?_, fun h1 => ?_⟩
                  · conv => whnf
                    refine ⟨fun hp => ?_, fun hp => ?_⟩
                    · have hp : 0 < (m').length := by have := of_decide_eq_true hp; omega
                      conv => whnf
                      refine ⟨0, rfl, hp, ?_⟩
                      conv => whnf
                      refine ⟨fun hl => ?_, fun hl => ?_⟩
                      · have hl : ((m').getD 0 []).length = 4 := by have := beq_iff_eq.1 hl; omega
                        have hr4 := h4' _ (getD_mem (d := []) hp)
                        refine ADraw.plan tyOk mx (.q 0 (.q 1 (.q 2 (.q 3 (.q 4 (.q 5 (.q 6 (.q 7 (.q 8 (.q 9 (.q 10 (.q 11 (.q 12 (.q 13 (.q 14 (.q 15 (.q 16 (.q 17 (.q 18 (.q 19 (.q 20 (.q 21 (.q 22 (.q 23 (.q 24 (.q 25 (.q 26 (.q 27 (.last 28 (.q 29 (.last 30 (.done))))))))))))))))))))))))))))))) : Plan) (by kernel_rfl) ?_
                        conv => whnf
                        repeat' (first
                          | (refine ⟨rfl, ?_⟩; (conv => whnf); exact .inl ⟨2, 2, z', List.set m' 0 _, a4, s4, rfl, inr2, inr2, hz', h4'.smSet hm' (by omega) 0 (le4 (set4 (set4 (set4 (set4 rep4 _ (W_inr _)) _ (W_inr _)) _ (getI hr4.2 _)) _ (getI hr4.2 _))), by omega, by omega, rfl⟩; done)
                          | (refine ⟨0, rfl, by omega, ?_⟩; conv => whnf)
                          | (refine ⟨1, rfl, by omega, ?_⟩; conv => whnf)
                          | (refine ⟨2, rfl, by omega, ?_⟩; conv => whnf)
                          | (refine ⟨3, rfl, by omega, ?_⟩; conv => whnf)
                          | (refine And.intro ?_ ?_ <;> (conv => whnf)))
                      · (repeat (conv => whnf); (first | refine ⟨fun h => absurd h (by decide), fun _ => ?_⟩ | refine ⟨fun _ => ?_, fun h => absurd h (by decide)⟩)); conv => whnf
                        refine ⟨rfl, ?_⟩
                        conv => whnf
                        exact .inl ⟨2, 2, z', m', a4, s4, rfl, inr2, inr2, hz', h4'.sm hm' (by omega), by omega, by omega, rfl⟩
                    · (repeat (conv => whnf); (first | refine ⟨fun h => absurd h (by decide), fun _ => ?_⟩ | refine ⟨fun _ => ?_, fun h => absurd h (by decide)⟩)); conv => whnf
                      refine ⟨rfl, ?_⟩
                      conv => whnf
                      exact .inl ⟨2, 2, z', m', a4, s4, rfl, inr2, inr2, hz', h4'.sm hm' (by omega), by omega, by omega, rfl⟩
                  · conv => whnf
                    refine ⟨fun h2 => ?_, fun h2 => ?_⟩
                    · conv => whnf
                      refine ⟨by simp [room]; omega, ?_⟩
                      conv => whnf
                      refine ⟨rfl, ?_⟩
                      conv => whnf
                      exact .inl ⟨2, 2, z', m' ++ [_], a4, s4, rfl, inr2, inr2, hz', h4'.smApp hm' (by omega) (le4 (set4 (set4 (set4 (set4 rep4 _ (by unfold InR; omega)) _ inr0) _ inr0) _ inr0)), by omega, by omega, rfl⟩
                    · conv => whnf
                      refine ⟨fun h3 => ?_, fun h3 => ?_⟩
                      · conv => whnf
                        refine ⟨fun hp => ?_, fun hp => ?_⟩
                        · have hp : 0 < (m').length := by have := of_decide_eq_true hp; omega
                          conv => whnf
                          refine ⟨0, rfl, hp, ?_⟩
                          conv => whnf
                          refine ⟨rfl, ?_⟩
                          conv => whnf
                          exact .inl ⟨2, 2, z', List.set m' 0 _, a4, s4, rfl, inr2, inr2, hz', h4'.smSet hm' (by omega) 0 (sp3 hz'), by omega, by omega, rfl⟩
                        · conv => whnf
                          refine ⟨rfl, ?_⟩
                          conv => whnf
                          exact .inl ⟨2, 2, z', m', a4, s4, rfl, inr2, inr2, hz', h4'.sm hm' (by omega), by omega, by omega, rfl⟩
                      · conv => whnf
                        refine ⟨fun h5 => ?_, fun h5 => ?_⟩
                        · conv => whnf
                          refine ⟨rfl, ?_⟩
                          conv => whnf
                          exact .inr ⟨a4, s4, rfl, by omega, by omega, rfl⟩
                        · conv => whnf
                          refine ⟨rfl, ?_⟩
                          conv => whnf
                          exact .inl ⟨2, 2, z', m', a4, s4, rfl, inr2, inr2, hz', h4'.sm hm' (by omega), by omega, by omega, rfl⟩
            · conv => whnf
              refine ACallS.inline tyOk mx Try.func219 rfl (by kernel_rfl) rfl ?_
              conv => whnf
              refine ACallS.tmut 0 (pick_spec code hc a5 s5 (by omega) 50 (by omega) (by omega)) ?_ rfl (by (repeat' (first | exact trivial | exact rfl | refine And.intro ?_ ?_)) <;> (try first | omega | (simp; done))) (by (repeat' (first | exact trivial | exact rfl | refine And.intro ?_ ?_)) <;> (try first | omega | (simp; done)))
              rintro v r ⟨c, a4, s4, rfl, l_c, u_c, e_a4, g_a4, rfl⟩
              conv => whnf
              refine ⟨fun h0 => ?_, fun h0 => ?_⟩
              · conv => whnf
                refine ACallS.give ?_
                refine ACallS.tmutL (among_spec code hc a4 s4 (by omega) _ (by kernel_rfl) (-9223372036854775808) 9223372036854775807 (sp_in z)) ?_ rfl (by (repeat' (first | exact trivial | exact rfl | refine And.intro ?_ ?_)) <;> (try first | omega | (simp; done)))
                rintro v r ⟨q, a5, s5, rfl, lq, uq, e5, g5, rfl⟩
                conv => whnf
                refine ⟨rfl, ?_⟩
                conv => whnf
                exact .inl ⟨2, 2, q, m, a5, s5, rfl, inr2, inr2, ⟨lq, uq⟩, h4.sm hm (by omega), by omega, by omega, rfl⟩
              · conv => whnf
                refine ⟨fun h1 => ?_, fun h1 => ?_⟩
                · conv => whnf
                  refine ⟨fun hp => ?_, fun hp => ?_⟩
                  · have hp : 0 < (m).length := by have := of_decide_eq_true hp; omega
                    conv => whnf
                    refine ⟨0, rfl, hp, ?_⟩
                    conv => whnf
                    refine ⟨fun hl => ?_, fun hl => ?_⟩
                    · have hl : ((m).getD 0 []).length = 4 := by have := beq_iff_eq.1 hl; omega
                      have hr4 := h4 _ (getD_mem (d := []) hp)
                      refine ADraw.plan tyOk mx (.q 0 (.q 1 (.q 2 (.q 3 (.q 4 (.q 5 (.q 6 (.q 7 (.q 8 (.q 9 (.q 10 (.q 11 (.q 12 (.q 13 (.q 14 (.q 15 (.q 16 (.q 17 (.q 18 (.q 19 (.q 20 (.q 21 (.q 22 (.q 23 (.q 24 (.q 25 (.q 26 (.q 27 (.last 28 (.q 29 (.last 30 (.done))))))))))))))))))))))))))))))) : Plan) (by kernel_rfl) ?_
                      conv => whnf
                      repeat' (first
                        | (refine ⟨rfl, ?_⟩; (conv => whnf); exact .inl ⟨2, 2, z, List.set m 0 _, a4, s4, rfl, inr2, inr2, hz, h4.smSet hm (by omega) 0 (le4 (set4 (set4 (set4 (set4 rep4 _ (W_inr _)) _ (W_inr _)) _ (getI hr4.2 _)) _ (getI hr4.2 _))), by omega, by omega, rfl⟩; done)
                        | (refine ⟨0, rfl, by omega, ?_⟩; conv => whnf)
                        | (refine ⟨1, rfl, by omega, ?_⟩; conv => whnf)
                        | (refine ⟨2, rfl, by omega, ?_⟩; conv => whnf)
                        | (refine ⟨3, rfl, by omega, ?_⟩; conv => whnf)
                        | (refine And.intro ?_ ?_ <;> (conv => whnf)))
                    · (repeat (conv => whnf); (first | refine ⟨fun h => absurd h (by decide), fun _ => ?_⟩ | refine ⟨fun _ => ?_, fun h => absurd h (by decide)⟩)); conv => whnf
                      refine ⟨rfl, ?_⟩
                      conv => whnf
                      exact .inl ⟨2, 2, z, m, a4, s4, rfl, inr2, inr2, hz, h4.sm hm (by omega), by omega, by omega, rfl⟩
                  · (repeat (conv => whnf); (first | refine ⟨fun h => absurd h (by decide), fun _ => ?_⟩ | refine ⟨fun _ => ?_, fun h => absurd h (by decide)⟩)); conv => whnf
                    refine ⟨rfl, ?_⟩
                    conv => whnf
                    exact .inl ⟨2, 2, z, m, a4, s4, rfl, inr2, inr2, hz, h4.sm hm (by omega), by omega, by omega, rfl⟩
                · conv => whnf
                  refine ⟨fun h2 => ?_, fun h2 => ?_⟩
                  · conv => whnf
                    refine ⟨by simp [room]; omega, ?_⟩
                    conv => whnf
                    refine ⟨rfl, ?_⟩
                    conv => whnf
                    exact .inl ⟨2, 2, z, m ++ [_], a4, s4, rfl, inr2, inr2, hz, h4.smApp hm (by omega) (le4 (set4 (set4 (set4 (set4 rep4 _ (by unfold InR; omega)) _ inr0) _ inr0) _ inr0)), by omega, by omega, rfl⟩
                  · conv => whnf
                    refine ⟨fun h3 => ?_, fun h3 => ?_⟩
                    · conv => whnf
                      refine ⟨fun hp => ?_, fun hp => ?_⟩
                      · have hp : 0 < (m).length := by have := of_decide_eq_true hp; omega
                        conv => whnf
                        refine ⟨0, rfl, hp, ?_⟩
                        conv => whnf
                        refine ⟨rfl, ?_⟩
                        conv => whnf
                        exact .inl ⟨2, 2, z, List.set m 0 _, a4, s4, rfl, inr2, inr2, hz, h4.smSet hm (by omega) 0 (sp3 hz), by omega, by omega, rfl⟩
                      · conv => whnf
                        refine ⟨rfl, ?_⟩
                        conv => whnf
                        exact .inl ⟨2, 2, z, m, a4, s4, rfl, inr2, inr2, hz, h4.sm hm (by omega), by omega, by omega, rfl⟩
                    · conv => whnf
                      refine ⟨fun h5 => ?_, fun h5 => ?_⟩
                      · conv => whnf
                        refine ⟨rfl, ?_⟩
                        conv => whnf
                        exact .inr ⟨a4, s4, rfl, by omega, by omega, rfl⟩
                      · conv => whnf
                        refine ⟨rfl, ?_⟩
                        conv => whnf
                        exact .inl ⟨2, 2, z, m, a4, s4, rfl, inr2, inr2, hz, h4.sm hm (by omega), by omega, by omega, rfl⟩
end Go.Proofs.Ytkomndcehdneaaa
/- Draws of what the laws of extreme boxes ask. -/
namespace Go.Proofs.Ytkomndcehdneaaa
open Go.Aw
set_option maxRecDepth 100000
set_option maxHeartbeats 4000000

theorem div23 {x : Int} (h0 : 0 ≤ x) (h1 : x < max 24 1) : ∃ q : Int, IntKind.i64.wrap (Int.tdiv x 23) = q ∧ 0 ≤ q ∧ q ≤ 1 := by
  have : x.tdiv 23 = x / 23 := Int.tdiv_eq_ediv_of_nonneg h0
  rw [this]
  exact ⟨x / 23, w64 (by omega) (by omega), by omega, by omega⟩
theorem kind_spec (code : List Int) (hc : OkB code) (a : Nat) (s : Int) (ha : a ≤ 800000000) : TSpec Try.prog 189 (cur code a s) [.ptr 0 0] (drawn code a 4 (-1) 9) := by
  refine tspec tyOk mx Try.func189 rfl (by kernel_rfl) rfl rfl ?_
  conv => whnf
  refine ACallS.tmut 0 (pick_spec code hc a s (by omega) 9 (by omega) (by omega)) ?_ rfl (by (repeat' (first | exact trivial | exact rfl | refine And.intro ?_ ?_)) <;> (try first | omega | (simp; done))) (by (repeat' (first | exact trivial | exact rfl | refine And.intro ?_ ?_)) <;> (try first | omega | (simp; done)))
  rintro v r ⟨k, a1, s1, rfl, l_k, u_k, e_a1, g_a1, rfl⟩
  conv => whnf
  refine ACallS.tmut 0 (pick_spec code hc a1 s1 (by omega) 24 (by omega) (by omega)) ?_ rfl (by (repeat' (first | exact trivial | exact rfl | refine And.intro ?_ ?_)) <;> (try first | omega | (simp; done))) (by (repeat' (first | exact trivial | exact rfl | refine And.intro ?_ ?_)) <;> (try first | omega | (simp; done)))
  rintro v r ⟨t, a2, s2, rfl, l_t, u_t, e_a2, g_a2, rfl⟩
  conv => whnf
  refine ⟨by decide, ?_⟩
  conv => whnf
  obtain ⟨q, eq, q0, q1⟩ := div23 l_t u_t
  rw [eq]
  exact ⟨_, a2, s2, rfl, by rw [w64 (by omega) (by omega)]; omega, by rw [w64 (by omega) (by omega)]; omega, by omega, by omega, rfl⟩
/-- a drawn number -/
def numP : AVal → List (Nat × ARow) → Prop := fun v h => h = [] ∧ ∃ k : Int, InR k ∧ v = .c (.int .i64 k)
theorem drawn_in {code : List Int} {a k : Nat} {lo hi : Int} {v : AVal} {r : ARow} (h : drawn code a k lo hi v r) (h1 : -9223372036854775808 ≤ lo) (h2 : hi ≤ 9223372036854775807) : ∃ (x : Int) (a' : Nat) (s' : Int), v = .c (.int .i64 x) ∧ InR x ∧ a ≤ a' ∧ a' ≤ a + k ∧ r = cur code a' s' := by
  obtain ⟨x, a', s', e, l, u, h3, h4, h5⟩ := h
  exact ⟨x, a', s', e, by unfold InR; omega, h3, h4, h5⟩

theorem DrawEqualSumBox_spec (code : List Int) (hc : OkB code) : FSpec Try.prog 98 [.t (.ints .u8 code)] numP := by
  refine fspec tyOk mx Try.func98 rfl (by kernel_rfl) rfl ?_
  conv => whnf
  refine ACallS.tmut 0 (kind_spec code hc 0 0 (by omega)) ?_ rfl (by (repeat' (first | exact trivial | exact rfl | refine And.intro ?_ ?_)) <;> (try first | omega | (simp; done))) (by (repeat' (first | exact trivial | exact rfl | refine And.intro ?_ ?_)) <;> (try first | omega | (simp; done)))
  rintro v r ⟨x, a1, s1, rfl, l, u, _, _, rfl⟩
  conv => whnf
  exact ⟨rfl, x, by unfold InR; omega, rfl⟩
theorem DrawExtremeBox_spec (code : List Int) (hc : OkB code) : FSpec Try.prog 95 [.t (.ints .u8 code)] numP := by
  refine fspec tyOk mx Try.func95 rfl (by kernel_rfl) rfl ?_
  conv => whnf
  refine ACallS.tmut 0 (pick_spec code hc 0 0 (by omega) 26 (by omega) (by omega)) ?_ rfl (by (repeat' (first | exact trivial | exact rfl | refine And.intro ?_ ?_)) <;> (try first | omega | (simp; done))) (by (repeat' (first | exact trivial | exact rfl | refine And.intro ?_ ?_)) <;> (try first | omega | (simp; done)))
  rintro v r ⟨x, a1, s1, rfl, l, u, _, _, rfl⟩
  conv => whnf
  exact ⟨rfl, _, W_inr _, rfl⟩

/-- a drawn box, read-only -/
def boxT : AVal → List (Nat × ARow) → Prop := fun v h => h = [] ∧ ∃ (x y z : Int) (m : List (List Int)), InR x ∧ InR y ∧ InR z ∧ SmB m ∧ v = .ag [.c (.int .i64 x), .c (.int .i64 y), .c (.int .i64 z), .t (.rows m)]
theorem SmB.ok {m : List (List Int)} (h : SmB m) : OkM m ∧ SzM m := by
  obtain ⟨h3, h4⟩ := h
  refine ⟨⟨by omega, fun r hr => ⟨by have := (h4 r hr).1; omega, (h4 r hr).2⟩⟩, ?_⟩
  have k1 := tot_le_mul (m := m) (n := 4) (fun r hr => (h4 r hr).1)
  have : m.length * 4 ≤ 17 * 4 := Nat.mul_le_mul_right 4 h3
  unfold SzM; omega

theorem DrawIsExtreme_spec (code : List Int) (hc : OkB code) : FSpec Try.prog 101 [.t (.ints .u8 code)] boxT := by
  refine fspec tyOk mx Try.func101 rfl (by kernel_rfl) rfl ?_
  conv => whnf
  refine ACallS.tmut 1 (quietTwo_spec code hc 0 0 (by omega)) ?_ rfl (by (repeat' (first | exact trivial | exact rfl | refine And.intro ?_ ?_)) <;> (try first | omega | (simp; done))) (by (repeat' (first | exact trivial | exact rfl | refine And.intro ?_ ?_)) <;> (try first | omega | (simp; done)))
  rintro v r ⟨x, y, z, m, a1, s1, rfl, hx, hy, hz, hm, _, _, rfl⟩
  conv => whnf
  exact ⟨rfl, x, y, z, m, hx, hy, hz, hm, rfl⟩
theorem DrawIsEvenBox_spec (code : List Int) (hc : OkB code) : FSpec Try.prog 111 [.t (.ints .u8 code)] boxT := by
  refine fspec tyOk mx Try.func111 rfl (by kernel_rfl) rfl ?_
  conv => whnf
  refine ACall.use' (DrawIsExtreme_spec code hc) ?_
  rintro v h ⟨rfl, x, y, z, m, hx, hy, hz, hm, rfl⟩
  conv => whnf
  exact ⟨rfl, x, y, z, m, hx, hy, hz, hm, rfl⟩

/-- a drawn box: the function's own, nothing, or read-only -/
def boxW : AVal → List (Nat × ARow) → Prop := fun v h =>
  ((∃ (x y z : Int) (m : List (List Int)) (a' : Nat) (_s' : Int), v = .ag [.c (.int .i64 x), .c (.int .i64 y), .c (.int .i64 z), .own 0] ∧ InR x ∧ InR y ∧ InR z ∧ SmB m ∧ 0 ≤ a' ∧ a' ≤ 3000 ∧ h = [(0, .rows 25 3 true m)]) ∨ boxT v h) ∨
  ∃ (a' : Nat) (_s' : Int), v = .ag [.c (.int .i64 0), .c (.int .i64 0), .c (.int .i64 0), .c (.slice none 0 0)] ∧ 0 ≤ a' ∧ a' ≤ 3000 ∧ h = []
theorem boxW_tell {f : FuncId} {args : List AVal} (h : FSpec Try.prog f args boxW) : FSpec Try.prog f args boxT := by
  have h1 : FSpec Try.prog f args (fun v h => (∃ (x y z : Int) (m : List (List Int)), InR x ∧ InR y ∧ InR z ∧ SmB m ∧ v = .ag [.c (.int .i64 x), .c (.int .i64 y), .c (.int .i64 z), .own 0] ∧ h = [(0, .rows 25 3 true m)]) ∨ boxT v h) := by
    refine FSpec.view h (fun v hr hp => ?_)
    rcases hp with (⟨x, y, z, m, a', s', rfl, hx, hy, hz, hm, _, _, rfl⟩ | ⟨rfl, x, y, z, m, hx, hy, hz, hm, rfl⟩) | ⟨a', s', rfl, _, _, rfl⟩
    · exact ⟨[(0, .row 0)], .ag [.c (.int .i64 x), .c (.int .i64 y), .c (.int .i64 z), .own 0], [(0, .rows 25 3 true m)], rfl, ⟨rfl, rfl, trivial⟩, ⟨rfl, rfl, rfl, ⟨rfl, rfl⟩, trivial⟩, .inl ⟨x, y, z, m, hx, hy, hz, hm, rfl, rfl⟩⟩
    · exact ⟨[], .ag [.c (.int .i64 x), .c (.int .i64 y), .c (.int .i64 z), .t (.rows m)], [], rfl, trivial, ⟨rfl, rfl, rfl, rfl, trivial⟩, .inr ⟨rfl, x, y, z, m, hx, hy, hz, hm, rfl⟩⟩
    · exact ⟨[(0, .nil)], .ag [.c (.int .i64 0), .c (.int .i64 0), .c (.int .i64 0), .own 0], [(0, .rows 25 3 true [])], rfl, ⟨rfl, trivial, trivial⟩, ⟨rfl, rfl, rfl, ⟨rfl, rfl, rfl⟩, trivial⟩, .inl ⟨0, 0, 0, [], inr0, inr0, inr0, SmB.nil, rfl, rfl⟩⟩
  refine FSpec.view h1 (fun v hr hp => ?_)
  rcases hp with ⟨x, y, z, m, hx, hy, hz, hm, rfl, rfl⟩ | ⟨rfl, x, y, z, m, hx, hy, hz, hm, rfl⟩
  · exact ⟨[], .ag [.c (.int .i64 x), .c (.int .i64 y), .c (.int .i64 z), .t (.rows m)], [], rfl, trivial, ⟨rfl, rfl, rfl, ⟨rfl, rfl⟩, trivial⟩, rfl, x, y, z, m, hx, hy, hz, hm, rfl⟩
  · exact ⟨[], .ag [.c (.int .i64 x), .c (.int .i64 y), .c (.int .i64 z), .t (.rows m)], [], rfl, trivial, ⟨rfl, rfl, rfl, rfl, trivial⟩, rfl, x, y, z, m, hx, hy, hz, hm, rfl⟩

theorem DrawEightSums_spec (code : List Int) (hc : OkB code) : FSpec Try.prog 104 [.t (.ints .u8 code)] boxT := by
  refine boxW_tell ?_
  refine fspec tyOk mx Try.func104 rfl (by kernel_rfl) rfl ?_
  conv => whnf
  refine ACallS.tmut 1 (one_spec code hc 0 0 (by omega) 3 (by omega) (by omega)) ?_ rfl (by (repeat' (first | exact trivial | exact rfl | refine And.intro ?_ ?_)) <;> (try first | omega | (simp; done))) (by (repeat' (first | exact trivial | exact rfl | refine And.intro ?_ ?_)) <;> (try first | omega | (simp; done)))
  rintro v r ⟨b, a1, s1, rfl, e_1, g_1, rfl⟩
  conv => whnf
  refine ⟨fun hb => ?_, fun hb => ?_⟩
  · conv => whnf
    refine ACallS.omut 1 (someBox_spec code hc a1 s1 (by omega) 2 2) ?_ rfl (by (repeat' (first | exact trivial | exact rfl | refine And.intro ?_ ?_)) <;> (try first | omega | (simp; done))) (by (repeat' (first | exact trivial | exact rfl | refine And.intro ?_ ?_)) <;> (try first | omega | (simp; done)))
    rintro v h r ⟨z, m, a3, s3, hz, hm, h4, rfl, rfl, e3, g3, rfl⟩
    have hm : m.length = 4 := hm
    conv => whnf
    refine ACallS.inline tyOk mx Try.func219 rfl (by kernel_rfl) rfl ?_
    conv => whnf
    refine ACallS.tmut 1 (pick_spec code hc a3 s3 (by omega) 50 (by omega) (by omega)) ?_ rfl (by (repeat' (first | exact trivial | exact rfl | refine And.intro ?_ ?_)) <;> (try first | omega | (simp; done))) (by (repeat' (first | exact trivial | exact rfl | refine And.intro ?_ ?_)) <;> (try first | omega | (simp; done)))
    rintro v r ⟨c, a4, s4, rfl, l_c, u_c, e_a4, g_a4, rfl⟩
    conv => whnf
    refine ⟨fun h0 => ?_, fun h0 => ?_⟩
    · conv => whnf
      refine ACallS.inline tyOk mx Try.func116 rfl (by kernel_rfl) rfl ?_
      conv => whnf
      refine ACallS.tmut 1 (pick_spec code hc a4 s4 (by omega) 4 (by omega) (by omega)) ?_ rfl (by (repeat' (first | exact trivial | exact rfl | refine And.intro ?_ ?_)) <;> (try first | omega | (simp; done))) (by (repeat' (first | exact trivial | exact rfl | refine And.intro ?_ ?_)) <;> (try first | omega | (simp; done)))
      rintro v r ⟨y4, a5, s5, rfl, y0, y1, e5, g5, rfl⟩
      conv => whnf
      obtain ⟨i4, rfl, hi4⟩ := nat_of (len := 4) y0 (by omega)
      refine ⟨i4, rfl, hi4, ?_⟩
      conv => whnf
      obtain ⟨lq, uq⟩ := among_in (sp_in z) (i := i4) hi4
      generalize List.getD (((((List.replicate 4 (0 : Int)).set 0 0).set 1 (-1)).set 2 1001).set 3 (IntKind.i64.wrap (z + 1))) i4 0 = q at lq uq ⊢
      refine ⟨rfl, ?_⟩
      conv => whnf
      refine ⟨rfl, ?_⟩
      conv => whnf
      exact .inl (.inl ⟨2, 2, q, m, a5, s5, rfl, inr2, inr2, ⟨lq, uq⟩, h4.sm hm (by omega), by omega, by omega, rfl⟩)
    · conv => whnf
      refine ⟨fun h1 => ?_, fun h1 => ?_⟩
      · conv => whnf
        refine ⟨fun hp => ?_, fun hp => ?_⟩
        · have hp : 0 < (m).length := by have := of_decide_eq_true hp; omega
          conv => whnf
          refine ⟨0, rfl, hp, ?_⟩
          conv => whnf
          refine ⟨fun hl => ?_, fun hl => ?_⟩
          · have hl : ((m).getD 0 []).length = 4 := by have := beq_iff_eq.1 hl; omega
            have hr4 := h4 _ (getD_mem (d := []) hp)
            refine ADraw.plan tyOk mx (.q 0 (.q 1 (.q 2 (.q 3 (.q 4 (.q 5 (.q 6 (.q 7 (.q 8 (.q 9 (.q 10 (.q 11 (.q 12 (.q 13 (.q 14 (.q 15 (.q 16 (.q 17 (.q 18 (.q 19 (.q 20 (.q 21 (.q 22 (.q 23 (.q 24 (.q 25 (.q 26 (.q 27 (.last 28 (.q 29 (.last 30 (.done))))))))))))))))))))))))))))))) : Plan) (by kernel_rfl) ?_
            conv => whnf
            repeat' (first
              | (refine ⟨rfl, ?_⟩; (conv => whnf); exact .inl (.inl ⟨2, 2, z, List.set m 0 _, a4, s4, rfl, inr2, inr2, hz, h4.smSet hm (by omega) 0 (le4 (set4 (set4 (set4 (set4 rep4 _ (W_inr _)) _ (W_inr _)) _ (getI hr4.2 _)) _ (getI hr4.2 _))), by omega, by omega, rfl⟩); done)
              | (refine ⟨0, rfl, by omega, ?_⟩; conv => whnf)
              | (refine ⟨1, rfl, by omega, ?_⟩; conv => whnf)
              | (refine ⟨2, rfl, by omega, ?_⟩; conv => whnf)
              | (refine ⟨3, rfl, by omega, ?_⟩; conv => whnf)
              | (refine And.intro ?_ ?_ <;> (conv => whnf)))
          · (repeat (conv => whnf); (first | refine ⟨fun h => absurd h (by decide), fun _ => ?_⟩ | refine ⟨fun _ => ?_, fun h => absurd h (by decide)⟩)); conv => whnf
            refine ⟨rfl, ?_⟩
            conv => whnf
            exact .inl (.inl ⟨2, 2, z, m, a4, s4, rfl, inr2, inr2, hz, h4.sm hm (by omega), by omega, by omega, rfl⟩)
        · (repeat (conv => whnf); (first | refine ⟨fun h => absurd h (by decide), fun _ => ?_⟩ | refine ⟨fun _ => ?_, fun h => absurd h (by decide)⟩)); conv => whnf
          refine ⟨rfl, ?_⟩
          conv => whnf
          exact .inl (.inl ⟨2, 2, z, m, a4, s4, rfl, inr2, inr2, hz, h4.sm hm (by omega), by omega, by omega, rfl⟩)
      · conv => whnf
        refine ⟨fun h2 => ?_, fun h2 => ?_⟩
        · conv => whnf
          refine ⟨by simp [room]; omega, ?_⟩
          conv => whnf
          refine ⟨rfl, ?_⟩
          conv => whnf
          exact .inl (.inl ⟨2, 2, z, m ++ [_], a4, s4, rfl, inr2, inr2, hz, h4.smApp hm (by omega) (le4 (set4 (set4 (set4 (set4 rep4 _ (by unfold InR; omega)) _ inr0) _ inr0) _ inr0)), by omega, by omega, rfl⟩)
        · conv => whnf
          refine ⟨fun h3 => ?_, fun h3 => ?_⟩
          · conv => whnf
            refine ⟨fun hp => ?_, fun hp => ?_⟩
            · have hp : 0 < (m).length := by have := of_decide_eq_true hp; omega
              conv => whnf
              refine ⟨0, rfl, hp, ?_⟩
              conv => whnf
              refine ⟨rfl, ?_⟩
              conv => whnf
              exact .inl (.inl ⟨2, 2, z, List.set m 0 _, a4, s4, rfl, inr2, inr2, hz, h4.smSet hm (by omega) 0 (sp3 hz), by omega, by omega, rfl⟩)
            · conv => whnf
              refine ⟨rfl, ?_⟩
              conv => whnf
              exact .inl (.inl ⟨2, 2, z, m, a4, s4, rfl, inr2, inr2, hz, h4.sm hm (by omega), by omega, by omega, rfl⟩)
          · conv => whnf
            refine ⟨fun h5 => ?_, fun h5 => ?_⟩
            · conv => whnf
              refine ⟨rfl, ?_⟩
              conv => whnf
              exact .inr ⟨a4, s4, rfl, by omega, by omega, rfl⟩
            · conv => whnf
              refine ⟨rfl, ?_⟩
              conv => whnf
              exact .inl (.inl ⟨2, 2, z, m, a4, s4, rfl, inr2, inr2, hz, h4.sm hm (by omega), by omega, by omega, rfl⟩)
  · conv => whnf
    refine ACallS.tmut 1 (quietTwo_spec code hc a1 s1 (by omega)) ?_ rfl (by (repeat' (first | exact trivial | exact rfl | refine And.intro ?_ ?_)) <;> (try first | omega | (simp; done))) (by (repeat' (first | exact trivial | exact rfl | refine And.intro ?_ ?_)) <;> (try first | omega | (simp; done)))
    rintro v r ⟨x, y, z, m, a2, s2, rfl, hx, hy, hz, hm, _, _, rfl⟩
    conv => whnf
    exact .inl (.inr ⟨rfl, x, y, z, m, hx, hy, hz, hm, rfl⟩)
theorem DrawEvenOut_spec (code : List Int) (hc : OkB code) : FSpec Try.prog 108 [.t (.ints .u8 code)] boxT := by
  refine fspec tyOk mx Try.func108 rfl (by kernel_rfl) rfl ?_
  conv => whnf
  refine ACall.use' (DrawEightSums_spec code hc) ?_
  rintro v h ⟨rfl, x, y, z, m, hx, hy, hz, hm, rfl⟩
  conv => whnf
  exact ⟨rfl, x, y, z, m, hx, hy, hz, hm, rfl⟩
theorem DrawNoisySum_spec (code : List Int) (hc : OkB code) : FSpec Try.prog 105 [.t (.ints .u8 code)] (fun v h => h = [] ∧ ∃ k sh no : Int, InR k ∧ InR sh ∧ InR no ∧ v = .tu [.c (.int .i64 k), .c (.int .i64 sh), .c (.int .i64 no)]) := by
  refine fspec tyOk mx Try.func105 rfl (by kernel_rfl) rfl ?_
  conv => whnf
  refine ACallS.tmut 0 (kind_spec code hc 0 0 (by omega)) ?_ rfl (by (repeat' (first | exact trivial | exact rfl | refine And.intro ?_ ?_)) <;> (try first | omega | (simp; done))) (by (repeat' (first | exact trivial | exact rfl | refine And.intro ?_ ?_)) <;> (try first | omega | (simp; done)))
  rintro v r ⟨k, a1, s1, rfl, l, u, _, e1, rfl⟩
  conv => whnf
  refine ACallS.inline tyOk mx Try.func116 rfl (by kernel_rfl) rfl ?_
  conv => whnf
  refine ACallS.tmut 0 (pick_spec code hc a1 s1 (by omega) 8 (by omega) (by omega)) ?_ rfl (by (repeat' (first | exact trivial | exact rfl | refine And.intro ?_ ?_)) <;> (try first | omega | (simp; done))) (by (repeat' (first | exact trivial | exact rfl | refine And.intro ?_ ?_)) <;> (try first | omega | (simp; done)))
  rintro v r ⟨y, a2, s2, rfl, y0, y1, e_a2, g_a2, rfl⟩
  conv => whnf
  obtain ⟨i, rfl, hi⟩ := nat_of (len := 8) y0 (by omega)
  refine ⟨i, rfl, hi, ?_⟩
  conv => whnf
  have h_sh : -1 ≤ (((((((((List.replicate 8 (0 : Int)).set 0 1).set 1 2).set 2 0).set 3 5).set 4 500).set 5 501).set 6 1000).set 7 (-1)).getD i 0 ∧ (((((((((List.replicate 8 (0 : Int)).set 0 1).set 1 2).set 2 0).set 3 5).set 4 500).set 5 501).set 6 1000).set 7 (-1)).getD i 0 ≤ 1000 := among_in (by kernel_rfl) hi
  generalize (((((((((List.replicate 8 (0 : Int)).set 0 1).set 1 2).set 2 0).set 3 5).set 4 500).set 5 501).set 6 1000).set 7 (-1)).getD i 0 = sh at h_sh ⊢
  refine ⟨rfl, ?_⟩
  conv => whnf
  clear y0 y1 hi
  refine ACallS.inline tyOk mx Try.func116 rfl (by kernel_rfl) rfl ?_
  conv => whnf
  refine ACallS.tmut 0 (pick_spec code hc a2 s2 (by omega) 8 (by omega) (by omega)) ?_ rfl (by (repeat' (first | exact trivial | exact rfl | refine And.intro ?_ ?_)) <;> (try first | omega | (simp; done))) (by (repeat' (first | exact trivial | exact rfl | refine And.intro ?_ ?_)) <;> (try first | omega | (simp; done)))
  rintro v r ⟨y, a3, s3, rfl, y0, y1, e_a3, g_a3, rfl⟩
  conv => whnf
  obtain ⟨i, rfl, hi⟩ := nat_of (len := 8) y0 (by omega)
  refine ⟨i, rfl, hi, ?_⟩
  conv => whnf
  have h_no : -1 ≤ (((((((((List.replicate 8 (0 : Int)).set 0 0).set 1 1).set 2 2).set 3 3).set 4 250).set 5 251).set 6 (-1)).set 7 4611686018427387904).getD i 0 ∧ (((((((((List.replicate 8 (0 : Int)).set 0 0).set 1 1).set 2 2).set 3 3).set 4 250).set 5 251).set 6 (-1)).set 7 4611686018427387904).getD i 0 ≤ 4611686018427387904 := among_in (by kernel_rfl) hi
  generalize (((((((((List.replicate 8 (0 : Int)).set 0 0).set 1 1).set 2 2).set 3 3).set 4 250).set 5 251).set 6 (-1)).set 7 4611686018427387904).getD i 0 = no at h_no ⊢
  refine ⟨rfl, ?_⟩
  conv => whnf
  clear y0 y1 hi
  exact ⟨rfl, k, sh, no, by unfold InR; omega, by unfold InR; omega, by unfold InR; omega, rfl⟩
end Go.Proofs.Ytkomndcehdneaaa
/- IsQuiet, AgreementsOf: the program. -/
namespace Go.Proofs.Ytkomndcehdneaaa
open Go.Aw
set_option maxRecDepth 100000
set_option maxHeartbeats 4000000

theorem IsQuiet_i (x y z : Int) (m : List (List Int)) (km : SzM m) : FSpec Try.prog 42 [.ag [.c (.int .i64 (x)), .c (.int .i64 (y)), .c (.int .i64 (z)), .t (.rows m)]] (ex (.tu [.c (.bool (quietB x y z m)), .c (.bool (goodB x y z m))]) []) := by
  refine fspec tyOk mx Try.func42 rfl (by kernel_rfl) rfl ?_
  conv => whnf
  refine ACall.use (IsBox_spec x y z m km) ?_
  conv => whnf
  refine ⟨fun h => ?_, fun h => ?_⟩
  · have h : goodB x y z m = false := by simpa using h
    conv => whnf
    exact ⟨by rw [quietB, h]; rfl, rfl⟩
  · have h : goodB x y z m = true := by simpa using h
    conv => whnf
    refine ACall.use (isQuiet_spec x y z m km) ?_
    conv => whnf
    exact ⟨by rw [h], rfl⟩
def agOf (x y z : Int) (m : List (List Int)) : List Int := if goodB x y z m then m.map agr else []
theorem AgreementsOf_i (x y z : Int) (m : List (List Int)) (km : SzM m) : FSpec Try.prog 114 [.ag [.c (.int .i64 (x)), .c (.int .i64 (y)), .c (.int .i64 (z)), .t (.rows m)]] (ex (.tu [.own 0, .c (.bool (goodB x y z m))]) [(0, .ints 3 .i64 (agOf x y z m))]) := by
  refine view_ints ?_
  refine fspec tyOk mx Try.func114 rfl (by kernel_rfl) rfl ?_
  conv => whnf
  refine ACall.use (IsBox_spec x y z m km) ?_
  conv => whnf
  refine ⟨fun h => ?_, fun h => ?_⟩
  · have h : goodB x y z m = false := by simpa using h
    conv => whnf
    exact .inl ⟨h, rfl, rfl⟩
  · have h : goodB x y z m = true := by simpa using h
    obtain ⟨_, _, _, _, _, _, _, _, _, _, hml, hab, hr⟩ := goodB_spec h
    conv => whnf
    have hlen : m.length ≤ 9 := by omega
    refine aloopI tyOk mx (fun k : Nat => (⟨25, [(4, .own 1), (12, .t (.rows m)), (13, .c (.int .i64 (m.length))), (14, .c (.int .i64 (k)))], [(0, .cells 53 [.c (.int .i64 (x)), .c (.int .i64 (y)), .c (.int .i64 (z)), .t (.rows m)]), (1, .ints 3 .i64 ((m.take k).map agr))], 2⟩ : St)) (fun k => k ≤ m.length) (fun k => m.length - k) 0 (Nat.zero_le _) none (by refine ⟨rfl, rfl, ?_, ?_⟩ <;> ((repeat' (first | exact trivial | exact rfl | refine And.intro ?_ ?_)) <;> (try ((conv => whnf); first | refine vint ?_ | refine vboo ?_ | refine rint ?_ | refine rrow ?_ | skip)) <;> (try first | omega | (simp; done) | ((repeat rw [flts_closed _ (by assumption)]); exact vws_closed _ (by assumption))))) (fun k hk => ?_)
    refine ⟨fun h2 => ?_, fun h2 => ?_⟩
    · have h2 : k < m.length := by have := ltT h2; omega
      have h4 := (hr _ (getD_mem (d := []) h2)).1
      conv => whnf
      refine ⟨k, rfl, h2, ?_⟩
      conv => whnf
      refine ACall.use (agreement_spec _ h4) ?_
      conv => whnf
      refine ⟨by simp [room]; omega, ?_⟩
      conv => whnf
      rw [nat_wrap (by omega)]
      have e : (m.take k).map agr ++ [agr (m.getD k [])] = (m.take (k + 1)).map agr := by
        rw [List.take_add_one, List.getElem?_eq_getElem h2, List.map_append, List.getD_eq_getElem?_getD, List.getElem?_eq_getElem h2]; rfl
      refine ⟨k + 1, none, ?_, by omega, by omega⟩
      (refine ⟨rfl, rfl, ?_, ?_⟩ <;> ((repeat' (first | exact trivial | exact rfl | refine And.intro ?_ ?_)) <;> (try ((conv => whnf); first | refine vint ?_ | refine vboo ?_ | refine rint ?_ | refine rrow ?_ | skip)) <;> (try first | omega | (simp; done) | ((repeat rw [flts_closed _ (by assumption)]); exact vws_closed _ (by assumption)))))
      exact e
    · have h2 : ¬ k < m.length := by have := ltF h2; omega
      conv => whnf
      refine .inr ⟨h, rfl, ?_⟩
      rw [List.take_of_length_le (by omega)]
end Go.Proofs.Ytkomndcehdneaaa
/- What the laws compare with. -/
namespace Go.Proofs.Ytkomndcehdneaaa
open Go.Aw
set_option maxRecDepth 100000

theorem vBig_spec (code : List Int) : FSpec Try.prog 9 [.t (.ints .u8 code)] (ex (.c (.bool (decide ((code.length : Int) > 65536)))) []) := by
  refine fspec tyOk mx Try.func9 rfl (by kernel_rfl) rfl ?_
  conv => whnf
  exact ⟨rfl, rfl⟩
theorem rBig_spec (code : List Int) : FSpec Try.prog 46 [.t (.ints .u8 code)] (ex (.c (.bool (decide ((code.length : Int) > 65536)))) []) := by
  refine fspec tyOk mx Try.func46 rfl (by kernel_rfl) rfl ?_
  conv => whnf
  exact ⟨rfl, rfl⟩
theorem vInts_spec (a b : List Int) (h : a.length ≤ 9223372036854775807) :
    FSpec Try.prog 24 [.t (.ints .i64 a), .t (.ints .i64 b)] (ex (.c (.bool (decide (a = b)))) []) := by
  refine fspec tyOk mx Try.func24 rfl (by kernel_rfl) rfl ?_
  refine ⟨fun hl => ?_, fun hl => ?_⟩
  · conv => whnf
    refine ⟨?_, rfl⟩
    rw [decide_eq_false]
    rintro rfl
    simp at hl
  · conv => whnf
    simp only [bne_eq_false_iff_eq, Int.natCast_inj] at hl
    refine aloopI tyOk mx (fun k : Nat => (⟨26, [(0, .t (.ints .i64 a)), (1, .t (.ints .i64 b)), (5, .c (.int .i64 (k : Int)))], [], 0⟩ : St)) (fun k => k ≤ a.length ∧ ∀ j, j < k → a[j]? = b[j]?) (fun k => a.length - k)
      0 ⟨by omega, fun j hj => by omega⟩ none (by refine ⟨rfl, rfl, ?_, ?_⟩ <;> ((repeat' (first | exact trivial | exact rfl | refine And.intro ?_ ?_)) <;> (try ((conv => whnf); first | refine vint ?_ | refine vboo ?_ | refine rint ?_ | refine rrow ?_ | skip)) <;> (try first | omega | (simp; done) | ((repeat rw [flts_closed _ (by assumption)]); exact vws_closed _ (by assumption))))) (fun k hI => ?_)
    obtain ⟨hk, hp⟩ := hI
    refine ⟨fun h => ?_, fun h => ?_⟩
    · conv => whnf
      have hk1 : k < a.length := by simpa using h
      refine ADraw.std tyOk mx ⟨by kernel_rfl, ⟨k, rfl, hk1, k, rfl, by omega, fun h => ?_, fun h => ?_⟩⟩
      · conv => whnf
        refine ⟨?_, rfl⟩
        rw [decide_eq_false]
        rintro rfl
        simp at h
      · conv => whnf
        simp only [bne_eq_false_iff_eq, List.getD_eq_getElem?_getD] at h
        rw [w64 (by omega) (by omega)]
        refine ⟨k + 1, none, (by refine ⟨rfl, rfl, ?_, ?_⟩ <;> ((repeat' (first | exact trivial | exact rfl | refine And.intro ?_ ?_)) <;> (try ((conv => whnf); first | refine vint ?_ | refine vboo ?_ | refine rint ?_ | refine rrow ?_ | skip)) <;> (try first | omega | (simp; done) | ((repeat rw [flts_closed _ (by assumption)]); exact vws_closed _ (by assumption))))), ⟨by omega, fun j hj => ?_⟩, by omega⟩
        by_cases e : j = k
        · subst e
          rw [List.getElem?_eq_getElem hk1, List.getElem?_eq_getElem (by omega)] at h ⊢
          simpa using h
        · exact hp j (by omega)
    · conv => whnf
      refine ⟨?_, rfl⟩
      rw [decide_eq_true]
      have hk1 : ¬ k < a.length := by simpa using h
      refine List.ext_getElem? (fun i => ?_)
      by_cases hi : i < k
      · exact hp i hi
      · rw [List.getElem?_eq_none (by omega), List.getElem?_eq_none (by omega)]
theorem vTable_spec (a b : List (List Int)) (h : a.length ≤ 9223372036854775807) (hr : ∀ r, r ∈ a → r.length ≤ 9223372036854775807) :
    FSpec Try.prog 40 [.t (.rows a), .t (.rows b)] (ex (.c (.bool (decide (a = b)))) []) := by
  refine fspec tyOk mx Try.func40 rfl (by kernel_rfl) rfl ?_
  refine ⟨fun hl => ?_, fun hl => ?_⟩
  · conv => whnf
    refine ⟨?_, rfl⟩
    rw [decide_eq_false]
    rintro rfl
    simp at hl
  · conv => whnf
    simp only [bne_eq_false_iff_eq, Int.natCast_inj] at hl
    refine aloopI tyOk mx (fun k : Nat => (⟨27, [(0, .t (.rows a)), (1, .t (.rows b)), (5, .c (.int .i64 (k : Int)))], [], 0⟩ : St)) (fun k => k ≤ a.length ∧ ∀ j, j < k → a[j]? = b[j]?) (fun k => a.length - k)
      0 ⟨by omega, fun j hj => by omega⟩ none (by refine ⟨rfl, rfl, ?_, ?_⟩ <;> ((repeat' (first | exact trivial | exact rfl | refine And.intro ?_ ?_)) <;> (try ((conv => whnf); first | refine vint ?_ | refine vboo ?_ | refine rint ?_ | refine rrow ?_ | skip)) <;> (try first | omega | (simp; done) | ((repeat rw [flts_closed _ (by assumption)]); exact vws_closed _ (by assumption))))) (fun k hI => ?_)
    obtain ⟨hk, hp⟩ := hI
    refine ⟨fun h => ?_, fun h => ?_⟩
    · conv => whnf
      have hk1 : k < a.length := by simpa using h
      have hkr : (a.getD k []).length ≤ 9223372036854775807 := by
        rw [List.getD_eq_getElem?_getD, List.getElem?_eq_getElem hk1]; exact hr _ (List.getElem_mem hk1)
      refine ADraw.std tyOk mx ⟨by kernel_rfl, k, rfl, hk1, k, rfl, by omega, ?_⟩
      conv => whnf
      refine QCall.use (vInts_spec _ _ hkr) ?_
      conv => whnf
      refine ⟨fun h => ?_, fun h => ?_⟩
      · conv => whnf
        refine ⟨?_, rfl⟩
        rw [decide_eq_false]
        rintro rfl
        simp at h
      · conv => whnf
        simp only [Bool.not_eq_false', decide_eq_true_eq, List.getD_eq_getElem?_getD] at h
        rw [w64 (by omega) (by omega)]
        refine ⟨k + 1, none, (by refine ⟨rfl, rfl, ?_, ?_⟩ <;> ((repeat' (first | exact trivial | exact rfl | refine And.intro ?_ ?_)) <;> (try ((conv => whnf); first | refine vint ?_ | refine vboo ?_ | refine rint ?_ | refine rrow ?_ | skip)) <;> (try first | omega | (simp; done) | ((repeat rw [flts_closed _ (by assumption)]); exact vws_closed _ (by assumption))))), ⟨by omega, fun j hj => ?_⟩, by omega⟩
        by_cases e : j = k
        · subst e
          rw [List.getElem?_eq_getElem hk1, List.getElem?_eq_getElem (by omega)] at h ⊢
          simpa using h
        · exact hp j (by omega)
    · conv => whnf
      refine ⟨?_, rfl⟩
      rw [decide_eq_true]
      have hk1 : ¬ k < a.length := by simpa using h
      refine List.ext_getElem? (fun i => ?_)
      by_cases hi : i < k
      · exact hp i hi
      · rw [List.getElem?_eq_none (by omega), List.getElem?_eq_none (by omega)]
end Go.Proofs.Ytkomndcehdneaaa
/- What the laws compare with (the other half's helpers). -/
namespace Go.Proofs.Ytkomndcehdneaaa
open Go.Aw
set_option maxRecDepth 100000

theorem rInts_spec (a b : List Int) (h : a.length ≤ 9223372036854775807) :
    FSpec Try.prog 75 [.t (.ints .i64 a), .t (.ints .i64 b)] (ex (.c (.bool (decide (a = b)))) []) := by
  refine fspec tyOk mx Try.func75 rfl (by kernel_rfl) rfl ?_
  refine ⟨fun hl => ?_, fun hl => ?_⟩
  · conv => whnf
    refine ⟨?_, rfl⟩
    rw [decide_eq_false]
    rintro rfl
    simp at hl
  · conv => whnf
    simp only [bne_eq_false_iff_eq, Int.natCast_inj] at hl
    refine aloopI tyOk mx (fun k : Nat => (⟨26, [(0, .t (.ints .i64 a)), (1, .t (.ints .i64 b)), (5, .c (.int .i64 (k : Int)))], [], 0⟩ : St)) (fun k => k ≤ a.length ∧ ∀ j, j < k → a[j]? = b[j]?) (fun k => a.length - k)
      0 ⟨by omega, fun j hj => by omega⟩ none (by refine ⟨rfl, rfl, ?_, ?_⟩ <;> ((repeat' (first | exact trivial | exact rfl | refine And.intro ?_ ?_)) <;> (try ((conv => whnf); first | refine vint ?_ | refine vboo ?_ | refine rint ?_ | refine rrow ?_ | skip)) <;> (try first | omega | (simp; done) | ((repeat rw [flts_closed _ (by assumption)]); exact vws_closed _ (by assumption))))) (fun k hI => ?_)
    obtain ⟨hk, hp⟩ := hI
    refine ⟨fun h => ?_, fun h => ?_⟩
    · conv => whnf
      have hk1 : k < a.length := by simpa using h
      refine ADraw.std tyOk mx ⟨by kernel_rfl, ⟨k, rfl, hk1, k, rfl, by omega, fun h => ?_, fun h => ?_⟩⟩
      · conv => whnf
        refine ⟨?_, rfl⟩
        rw [decide_eq_false]
        rintro rfl
        simp at h
      · conv => whnf
        simp only [bne_eq_false_iff_eq, List.getD_eq_getElem?_getD] at h
        rw [w64 (by omega) (by omega)]
        refine ⟨k + 1, none, (by refine ⟨rfl, rfl, ?_, ?_⟩ <;> ((repeat' (first | exact trivial | exact rfl | refine And.intro ?_ ?_)) <;> (try ((conv => whnf); first | refine vint ?_ | refine vboo ?_ | refine rint ?_ | refine rrow ?_ | skip)) <;> (try first | omega | (simp; done) | ((repeat rw [flts_closed _ (by assumption)]); exact vws_closed _ (by assumption))))), ⟨by omega, fun j hj => ?_⟩, by omega⟩
        by_cases e : j = k
        · subst e
          rw [List.getElem?_eq_getElem hk1, List.getElem?_eq_getElem (by omega)] at h ⊢
          simpa using h
        · exact hp j (by omega)
    · conv => whnf
      refine ⟨?_, rfl⟩
      rw [decide_eq_true]
      have hk1 : ¬ k < a.length := by simpa using h
      refine List.ext_getElem? (fun i => ?_)
      by_cases hi : i < k
      · exact hp i hi
      · rw [List.getElem?_eq_none (by omega), List.getElem?_eq_none (by omega)]
theorem rTable_spec (a b : List (List Int)) (h : a.length ≤ 9223372036854775807) (hr : ∀ r, r ∈ a → r.length ≤ 9223372036854775807) :
    FSpec Try.prog 81 [.t (.rows a), .t (.rows b)] (ex (.c (.bool (decide (a = b)))) []) := by
  refine fspec tyOk mx Try.func81 rfl (by kernel_rfl) rfl ?_
  refine ⟨fun hl => ?_, fun hl => ?_⟩
  · conv => whnf
    refine ⟨?_, rfl⟩
    rw [decide_eq_false]
    rintro rfl
    simp at hl
  · conv => whnf
    simp only [bne_eq_false_iff_eq, Int.natCast_inj] at hl
    refine aloopI tyOk mx (fun k : Nat => (⟨27, [(0, .t (.rows a)), (1, .t (.rows b)), (5, .c (.int .i64 (k : Int)))], [], 0⟩ : St)) (fun k => k ≤ a.length ∧ ∀ j, j < k → a[j]? = b[j]?) (fun k => a.length - k)
      0 ⟨by omega, fun j hj => by omega⟩ none (by refine ⟨rfl, rfl, ?_, ?_⟩ <;> ((repeat' (first | exact trivial | exact rfl | refine And.intro ?_ ?_)) <;> (try ((conv => whnf); first | refine vint ?_ | refine vboo ?_ | refine rint ?_ | refine rrow ?_ | skip)) <;> (try first | omega | (simp; done) | ((repeat rw [flts_closed _ (by assumption)]); exact vws_closed _ (by assumption))))) (fun k hI => ?_)
    obtain ⟨hk, hp⟩ := hI
    refine ⟨fun h => ?_, fun h => ?_⟩
    · conv => whnf
      have hk1 : k < a.length := by simpa using h
      have hkr : (a.getD k []).length ≤ 9223372036854775807 := by
        rw [List.getD_eq_getElem?_getD, List.getElem?_eq_getElem hk1]; exact hr _ (List.getElem_mem hk1)
      refine ADraw.std tyOk mx ⟨by kernel_rfl, k, rfl, hk1, k, rfl, by omega, ?_⟩
      conv => whnf
      refine QCall.use (rInts_spec _ _ hkr) ?_
      conv => whnf
      refine ⟨fun h => ?_, fun h => ?_⟩
      · conv => whnf
        refine ⟨?_, rfl⟩
        rw [decide_eq_false]
        rintro rfl
        simp at h
      · conv => whnf
        simp only [Bool.not_eq_false', decide_eq_true_eq, List.getD_eq_getElem?_getD] at h
        rw [w64 (by omega) (by omega)]
        refine ⟨k + 1, none, (by refine ⟨rfl, rfl, ?_, ?_⟩ <;> ((repeat' (first | exact trivial | exact rfl | refine And.intro ?_ ?_)) <;> (try ((conv => whnf); first | refine vint ?_ | refine vboo ?_ | refine rint ?_ | refine rrow ?_ | skip)) <;> (try first | omega | (simp; done) | ((repeat rw [flts_closed _ (by assumption)]); exact vws_closed _ (by assumption))))), ⟨by omega, fun j hj => ?_⟩, by omega⟩
        by_cases e : j = k
        · subst e
          rw [List.getElem?_eq_getElem hk1, List.getElem?_eq_getElem (by omega)] at h ⊢
          simpa using h
        · exact hp j (by omega)
    · conv => whnf
      refine ⟨?_, rfl⟩
      rw [decide_eq_true]
      have hk1 : ¬ k < a.length := by simpa using h
      refine List.ext_getElem? (fun i => ?_)
      by_cases hi : i < k
      · exact hp i hi
      · rw [List.getElem?_eq_none (by omega), List.getElem?_eq_none (by omega)]
theorem rBox_spec (x y z : Int) (m m' : List (List Int)) (hm : m.length ≤ 9223372036854775807) (hr : ∀ r, r ∈ m → r.length ≤ 9223372036854775807) :
    FSpec Try.prog 50 [.ag [.c (.int .i64 (x)), .c (.int .i64 (y)), .c (.int .i64 (z)), .t (.rows m)], .ag [.c (.int .i64 (x)), .c (.int .i64 (y)), .c (.int .i64 (z)), .t (.rows m')]] (ex (.c (.bool (decide (m = m')))) []) := by
  refine fspec tyOk mx Try.func50 rfl (by kernel_rfl) rfl ?_
  conv => whnf
  refine ⟨fun _ => ?_, fun h => absurd h (by simp)⟩
  conv => whnf
  refine ⟨fun _ => ?_, fun h => absurd h (by simp)⟩
  conv => whnf
  refine ⟨fun _ => ?_, fun h => absurd h (by simp)⟩
  conv => whnf
  refine ACall.use (rTable_spec m m' hm hr) ?_
  conv => whnf
  exact ⟨rfl, rfl⟩
theorem vBox_spec (x y z : Int) (m m' : List (List Int)) (hm : m.length ≤ 9223372036854775807) (hr : ∀ r, r ∈ m → r.length ≤ 9223372036854775807) :
    FSpec Try.prog 41 [.ag [.c (.int .i64 (x)), .c (.int .i64 (y)), .c (.int .i64 (z)), .t (.rows m)], .ag [.c (.int .i64 (x)), .c (.int .i64 (y)), .c (.int .i64 (z)), .t (.rows m')]] (ex (.c (.bool (decide (m = m')))) []) := by
  refine fspec tyOk mx Try.func41 rfl (by kernel_rfl) rfl ?_
  conv => whnf
  refine ⟨fun _ => ?_, fun h => absurd h (by simp)⟩
  conv => whnf
  refine ⟨fun _ => ?_, fun h => absurd h (by simp)⟩
  conv => whnf
  refine ⟨fun _ => ?_, fun h => absurd h (by simp)⟩
  conv => whnf
  refine ACall.use (vTable_spec m m' hm hr) ?_
  conv => whnf
  exact ⟨rfl, rfl⟩
theorem rGame_spec (x y : Int) (s s' : List Int) (m m' : List (List Int)) (hs : s.length ≤ 9223372036854775807) (hm : m.length ≤ 9223372036854775807) (hr : ∀ r, r ∈ m → r.length ≤ 9223372036854775807) :
    FSpec Try.prog 90 [.ag [.c (.int .i64 (x)), .c (.int .i64 (y)), .t (.ints .i64 s), .t (.rows m)], .ag [.c (.int .i64 (x)), .c (.int .i64 (y)), .t (.ints .i64 s'), .t (.rows m')]] (ex (.c (.bool (decide (s = s') && decide (m = m')))) []) := by
  refine fspec tyOk mx Try.func90 rfl (by kernel_rfl) rfl ?_
  conv => whnf
  refine ⟨fun _ => ?_, fun h => absurd h (by simp)⟩
  conv => whnf
  refine ⟨fun _ => ?_, fun h => absurd h (by simp)⟩
  conv => whnf
  refine ACall.use (rInts_spec s s' hs) ?_
  conv => whnf
  refine ⟨fun h => ?_, fun h => ?_⟩
  · conv => whnf
    refine ACall.use (rTable_spec m m' hm hr) ?_
    conv => whnf
    exact ⟨by rw [h, Bool.true_and], rfl⟩
  · conv => whnf
    exact ⟨by rw [h, Bool.false_and], rfl⟩
end Go.Proofs.Ytkomndcehdneaaa
/- FnExtremes, walked. -/
namespace Go.Proofs.Ytkomndcehdneaaa
open Go.Aw
set_option maxRecDepth 100000
set_option maxHeartbeats 16000000

theorem mp_of {a b : Prop} (f : a → b) (x : a) : b := f x
theorem eo_R4 (m : List (List Int)) : R4 (eoM m) := box_R4 fun _ _ _ _ => W_inr _
theorem len_ok {α : Type} {m : List α} (h : m.length ≤ 1048576) : m.length ≤ 9223372036854775807 := by omega
theorem tot_ok {m : List (List Int)} (h : tot m ≤ 1048576) : ∀ r, r ∈ m → r.length ≤ 9223372036854775807 := fun r hr => by have := tot_mem hr; omega
theorem ex_bd (k : Int) : (exR k).length ≤ 1048576 ∧ tot (exR k) ≤ 1048576 := by
  by_cases h : exOk k = true
  · obtain ⟨n, rfl, hn⟩ := exOk_nat h
    have h2 := (ExtremeBox_bd (n : Int) (by unfold InR; omega))
    omega
  · rw [exR, if_neg h]; simp [tot]
theorem eq_bd (k : Int) : (eqRes k).length ≤ 1048576 ∧ tot (eqRes k) ≤ 1048576 := by
  by_cases h : eqOk k = true
  · have h1 := inR_iff.1 h
    have h2 := EqualSumBox_bd k (by unfold InR; omega)
    omega
  · rw [eqRes, if_neg h]; simp [tot]

theorem ite_in {n : Int} (b : Bool) (h : InR n) : InR (if b = true then n else 0) := by split
                                                                                             <;> first | exact h | exact inr0

theorem FnExtremes_spec (code : List Int) (hc : OkB code) : FSpec Try.prog 8 [.t (.ints .u8 code)] (ex (.c (.bool true)) []) := by
  refine fspec tyOk mx Try.func8 rfl (by kernel_rfl) rfl ?_
  conv => whnf
  refine ACall.use (rBig_spec code) ?_
  refine ⟨fun h => ?_, fun h => ?_⟩
  · conv => whnf
    exact ⟨rfl, rfl⟩
  clear h
  conv => whnf
  refine ACall.use' (DrawExtremeBox_spec code hc) ?_
  rintro v hr ⟨rfl, i, hi, rfl⟩
  conv => whnf
  refine ACall.use (ExtremeBox_i i hi) ?_
  conv => whnf
  refine ACall.use (ExtremeBox_s i hi) ?_
  conv => whnf
  refine ⟨fun _ => ?_, fun h => absurd h (by simp [])⟩
  conv => whnf
  refine ACall.use (rBox_spec _ _ _ _ _ (len_ok (ex_bd i).1) (tot_ok (ex_bd i).2)) ?_
  conv => whnf
  refine ⟨fun h => absurd h (by simp []), fun _ => ?_⟩
  conv => whnf
  refine ACall.use' (DrawEqualSumBox_spec code hc) ?_
  rintro v hr ⟨rfl, k, hk, rfl⟩
  conv => whnf
  refine ACall.use (EqualSumBox_i k hk) ?_
  conv => whnf
  refine ACall.use (EqualSumBox_s k hk) ?_
  conv => whnf
  refine ⟨fun _ => ?_, fun h => absurd h (by simp [])⟩
  conv => whnf
  refine ACall.use (rBox_spec _ _ _ _ _ (len_ok (eq_bd k).1) (tot_ok (eq_bd k).2)) ?_
  conv => whnf
  refine ⟨fun h => absurd h (by simp []), fun _ => ?_⟩
  conv => whnf
  refine ACall.use' (DrawIsExtreme_spec code hc) ?_
  rintro v hr ⟨rfl, cx, cy, cz, cm, hcx, hcy, hcz, hcm, rfl⟩
  conv => whnf
  refine ACall.use (IsExtreme_i cx cy cz cm hcx hcy hcz hcm.ok.1 hcm.ok.2) ?_
  conv => whnf
  refine ACall.use (IsExtreme_s cx cy cz cm hcx hcy hcz hcm.ok.1 hcm.ok.2) ?_
  conv => whnf
  refine ⟨fun _ => ?_, fun h => absurd h (by simp [])⟩
  conv => whnf
  refine ⟨fun h => absurd h (by simp []), fun _ => ?_⟩
  conv => whnf
  refine ACall.use' (DrawEightSums_spec code hc) ?_
  rintro v hr ⟨rfl, dx, dy, dz, dm, hdx, hdy, hdz, hdm, rfl⟩
  conv => whnf
  refine ACall.use (EightSums_i dx dy dz dm hdx hdy hdz hdm.ok.1 hdm.ok.2) ?_
  conv => whnf
  refine ACall.use (EightSums_s dx dy dz dm hdx hdy hdz hdm.ok.1 hdm.ok.2) ?_
  conv => whnf
  refine ⟨fun _ => ?_, fun h => absurd h (by simp [])⟩
  conv => whnf
  have db := EightSums_bd dx dy dz dm hdx hdy hdz hdm.ok.1 hdm.ok.2
  refine ACall.use (rInts_spec (esRes dx dy dz dm) (esRes dx dy dz dm) (by omega)) ?_
  conv => whnf
  refine ⟨fun h => absurd h (by simp []), fun _ => ?_⟩
  conv => whnf
  refine ACall.use' (DrawNoisySum_spec code hc) ?_
  rintro v hr ⟨rfl, ms, sh, no, hms, hsh, hno, rfl⟩
  have nb := NoisySum_bd ms hms sh hsh no hno
  conv => whnf
  refine ACall.use (NoisySum_i ms hms sh hsh no hno) ?_
  conv => whnf
  refine ACall.use (NoisySum_s ms hms sh hsh no hno) ?_
  conv => whnf
  refine ⟨fun _ => ?_, fun h => absurd h (by simp [])⟩
  conv => whnf
  refine ACall.use (rBox_spec _ _ _ _ _ (len_ok nb.1) (tot_ok nb.2)) ?_
  conv => whnf
  refine ⟨fun h => absurd h (by simp []), fun _ => ?_⟩
  conv => whnf
  refine ACall.use' (DrawEvenOut_spec code hc) ?_
  rintro v hr ⟨rfl, ex', ey, ez, em, hex, hey, hez, hem, rfl⟩
  have eb := EvenOut_bd ex' ey ez em hex hey hez hem.ok.1 hem.ok.2
  conv => whnf
  refine ACall.use (EvenOut_i ex' ey ez em hex hey hez hem.ok.1 hem.ok.2) ?_
  conv => whnf
  refine ACall.use (EvenOut_s ex' ey ez em hex hey hez hem.ok.1 hem.ok.2) ?_
  conv => whnf
  refine ⟨fun _ => ?_, fun h => absurd h (by simp [])⟩
  conv => whnf
  refine ACall.use (rBox_spec _ _ _ _ _ (len_ok eb.1) (tot_ok eb.2)) ?_
  conv => whnf
  refine ⟨fun h => absurd h (by simp []), fun _ => ?_⟩
  conv => whnf
  refine ACallS.view (R := [(0, .row 1), (1, .row 4), (2, .row 12), (3, .row 15), (4, .row 17)]) (args' := [.t (.ints .u8 code)]) (st' := (⟨349, [(2, .c (.bool false)), (4, .ptr 0 0), (5, .c (.bool (exOk i))), (8, .c (.int .i64 (k))), (9, .ptr 1 0), (10, .c (.bool (eqOk k))), (23, .c (.int .i64 (ms))), (24, .c (.int .i64 (sh))), (26, .ptr 2 0), (27, .c (.bool (nsOk ms sh no))), (30, .ptr 3 0), (31, .ptr 4 0), (32, .c (.bool (eoOk ex' ey ez em)))], [(0, .cells 53 [.c (.int .i64 (if exOk i = true then 2 else 0)), .c (.int .i64 (if exOk i = true then 2 else 0)), .c (.int .i64 (if exOk i = true then 2 else 0)), .t (.rows (exR i))]), (1, .cells 53 [.c (.int .i64 (if eqOk k = true then 2 else 0)), .c (.int .i64 (if eqOk k = true then 2 else 0)), .c (.int .i64 (if eqOk k = true then 2 else 0)), .t (.rows (eqRes k))]), (2, .cells 53 [.c (.int .i64 (if nsOk ms sh no = true then 2 else 0)), .c (.int .i64 (if nsOk ms sh no = true then 2 else 0)), .c (.int .i64 (if nsOk ms sh no = true then nsW sh no else 0)), .t (.rows (nsR ms sh no))]), (3, .cells 53 [.c (.int .i64 (ex')), .c (.int .i64 (ey)), .c (.int .i64 (ez)), .t (.rows em)]), (4, .cells 53 [.c (.int .i64 (if eoOk ex' ey ez em = true then 2 else 0)), .c (.int .i64 (if eoOk ex' ey ez em = true then 2 else 0)), .c (.int .i64 (if eoOk ex' ey ez em = true then W (ez + ez) else 0)), .t (.rows (eoR ex' ey ez em))])], 5⟩ : St)) (by refine ⟨rfl, rfl, ?_, ?_⟩ <;> ((repeat' (first | exact trivial | exact rfl | refine And.intro ?_ ?_)) <;> (try ((conv => whnf); first | refine vint ?_ | refine vboo ?_ | refine rint ?_ | refine rrow ?_ | skip)) <;> (try first | omega | (simp; done) | ((repeat rw [flts_closed _ (by assumption)]); exact vws_closed _ (by assumption))))) ⟨rfl, trivial⟩ ?_
  refine ACall.use' (DrawIsEvenBox_spec code hc) ?_
  rintro v hr ⟨rfl, fx, fy, fz, fm, hfx, hfy, hfz, hfm, rfl⟩
  conv => whnf
  refine ACall.use (IsEvenBox_i fx fy fz fm hfx hfy hfz hfm.ok.1 hfm.ok.2) ?_
  conv => whnf
  refine ACall.use (IsEvenBox_s fx fy fz fm hfx hfy hfz hfm.ok.1 hfm.ok.2) ?_
  conv => whnf
  refine ⟨fun _ => ?_, fun h => absurd h (by simp [])⟩
  conv => whnf
  refine ⟨fun h => absurd h (by simp []), fun _ => ?_⟩
  conv => whnf
  have Qi : exOk i = true → quietB (if exOk i = true then 2 else 0) (if exOk i = true then 2 else 0) (if exOk i = true then 2 else 0) (exR i) = true ∧ goodB (if exOk i = true then 2 else 0) (if exOk i = true then 2 else 0) (if exOk i = true then 2 else 0) (exR i) = true ∧
      ixIs (if exOk i = true then 2 else 0) (if exOk i = true then 2 else 0) (if exOk i = true then 2 else 0) (exR i) = true ∧ qpB (if exOk i = true then 2 else 0) (if exOk i = true then 2 else 0) (if exOk i = true then 2 else 0) (exR i) = true ∧ OkM (exR i) ∧ SzM (exR i) := fun h => by
    obtain ⟨n, rfl, hn⟩ := exOk_nat h
    rw [if_pos h, exR, if_pos h]
    show quietB 2 2 2 (exRow n) = true ∧ goodB 2 2 2 (exRow n) = true ∧ ixIs 2 2 2 (exRow n) = true ∧ qpB 2 2 2 (exRow n) = true ∧ OkM (exRow n) ∧ SzM (exRow n)
    have h1 := ex_quiet hn
    have h2 := ex_is hn
    have h3 : qpB 2 2 2 (exRow n) = true := by rw [ixIs, Bool.and_eq_true] at h2; exact h2.1
    have h4 : goodB 2 2 2 (exRow n) = true := by rw [quietB, Bool.and_eq_true] at h1; exact h1.1
    have sm := ((ex_R4 hn).sm (exRow_len n) (by omega)).ok
    exact ⟨h1, h4, h2, h3, sm.1, sm.2⟩
  have Qk : eqOk k = true → pairB (if eqOk k = true then 2 else 0) (if eqOk k = true then 2 else 0) (if eqOk k = true then 2 else 0) (eqRes k) = true ∧ (∃ n : Nat, k = n ∧ n < 8 ∧ (esRes (if eqOk k = true then 2 else 0) (if eqOk k = true then 2 else 0) (if eqOk k = true then 2 else 0) (eqRes k)).length = 8 ∧
      (esRes (if eqOk k = true then 2 else 0) (if eqOk k = true then 2 else 0) (if eqOk k = true then 2 else 0) (eqRes k)).getD n 0 = 8) ∧ OkM (eqRes k) ∧ SzM (eqRes k) := fun h => by
    have h1 := inR_iff.1 h
    obtain ⟨n, rfl⟩ : ∃ n : Nat, k = n := ⟨k.toNat, by omega⟩
    have hn : n < 8 := by omega
    rw [if_pos h, eqRes, if_pos h]
    have hp := eq_pair hn
    have sm := ((equal_R4 (n : Int)).sm (equal_len n) (by omega)).ok
    refine ⟨hp, ⟨n, rfl, hn, ?_, ?_⟩, sm.1, sm.2⟩
    · rw [esRes, if_pos hp, esL_len]
    · rw [esRes, if_pos hp]; exact eq_own hn
  have Qn : nsOk ms sh no = true → pairB (if nsOk ms sh no = true then 2 else 0) (if nsOk ms sh no = true then 2 else 0) (if nsOk ms sh no = true then nsW sh no else 0) (nsR ms sh no) = true ∧ (∃ n : Nat, ms = n ∧ n < 8 ∧ (esRes (if nsOk ms sh no = true then 2 else 0) (if nsOk ms sh no = true then 2 else 0) (if nsOk ms sh no = true then nsW sh no else 0) (nsR ms sh no)).length = 8 ∧
      (esRes (if nsOk ms sh no = true then 2 else 0) (if nsOk ms sh no = true then 2 else 0) (if nsOk ms sh no = true then nsW sh no else 0) (nsR ms sh no)).getD n 0 = IntKind.i64.wrap (8 * sh)) ∧ OkM (nsR ms sh no) ∧ SzM (nsR ms sh no) := fun h => by
    have h0 := h
    simp only [nsOk, nsIn, Bool.and_eq_true] at h0
    obtain ⟨⟨⟨h1, h2⟩, h3⟩, h4⟩ := h0
    have h1 := inR_iff.1 h1
    have h2 := inR_iff.1 h2
    have h3 := inR_iff.1 h3
    obtain ⟨n, rfl⟩ : ∃ n : Nat, ms = n := ⟨ms.toNat, by omega⟩
    have hn : n < 8 := by omega
    rw [if_pos h, if_pos h, nsR, if_pos h]
    have hp : pairB 2 2 (nsW sh no) (nsM n sh no) = true := by rw [pairB, h4]; rfl
    have sm := ((ns_R4 (n : Int) sh no).sm (boxRows_len _ 2 2) (by omega)).ok
    refine ⟨hp, ⟨n, rfl, hn, ?_, ?_⟩, sm.1, sm.2⟩
    · rw [esRes, if_pos hp, esL_len]
    · rw [esRes, if_pos hp, ns_own hn h2 h3, w64 (by omega) (by omega)]
  apply mp_of
  case f =>
    intro key
    refine ⟨fun hok => ?_, fun hok => ?_⟩
    · obtain ⟨q1, q2, q3, q4, q5, q6⟩ := Qi hok
      conv => whnf
      refine ACall.use (IsQuiet_i _ _ _ (exR i) q6) ?_
      conv => whnf
      refine ACall.use (IsExtreme_i _ _ _ (exR i) (ite_in _ inr2) (ite_in _ inr2) (ite_in _ inr2) q5 q6) ?_
      conv => whnf
      refine ⟨fun _ => ?_, fun h => absurd h (by simp [q2])⟩
      conv => whnf
      refine ⟨fun _ => ?_, fun h => absurd h (by simp [q4])⟩
      conv => whnf
      refine ⟨fun _ => ?_, fun h => absurd h (by simp [q1])⟩
      conv => whnf
      refine ⟨fun _ => ?_, fun h => absurd h (by simp [q3])⟩
      conv => whnf
      refine ⟨fun h => absurd h (by simp [hok]), fun _ => ?_⟩
      conv => whnf
      refine ⟨fun h1 => ?_, fun h1 => ?_⟩
      · obtain ⟨q1, ⟨n, en, hn, ql, qv⟩, q5, q6⟩ := Qk h1
        conv => whnf
        refine ACall.use (EightSums_i _ _ _ (eqRes k) (ite_in _ inr2) (ite_in _ inr2) (ite_in _ inr2) q5 q6) ?_
        conv => whnf
        refine ⟨fun _ => ?_, fun h => absurd h (by simp [q1])⟩
        conv => whnf
        refine ⟨fun _ => ?_, fun h => absurd h (by simp [ql])⟩
        refine ⟨n, en, by rw [ql]; exact hn, ?_⟩
        conv => whnf
        rw [qv]
        refine ⟨fun h => absurd h (by simp []), fun _ => ?_⟩
        conv => whnf
        refine ⟨fun h4 => ?_, fun h4 => ?_⟩
        · obtain ⟨q1, ⟨n, en, hn, ql, qv⟩, q5, q6⟩ := Qn h4
          conv => whnf
          refine ACall.use (EightSums_i _ _ (if nsOk ms sh no = true then nsW sh no else 0) (nsR ms sh no) (ite_in _ inr2) (ite_in _ inr2) (ite_in _ (W_inr _)) q5 q6) ?_
          conv => whnf
          refine ⟨fun _ => ?_, fun h => absurd h (by simp [q1])⟩
          conv => whnf
          refine ⟨fun _ => ?_, fun h => absurd h (by simp [ql])⟩
          refine ⟨n, en, by rw [ql]; exact hn, ?_⟩
          conv => whnf
          rw [qv]
          refine ⟨fun h => absurd h (by simp []), fun _ => ?_⟩
          conv => whnf
          refine ⟨fun h5 => ?_, fun h5 => ?_⟩
          · conv => whnf
            refine ACallS.view (R := [(0, .row 3), (1, .row 4)]) (args' := [.ag [.c (.int .i64 (ex')), .c (.int .i64 (ey)), .c (.int .i64 (ez)), .t (.rows em)]]) (st' := (⟨349, [(2, .c (.bool false)), (30, .ptr 0 0), (31, .ptr 1 0)], [(0, .cells 53 [.c (.int .i64 (ex')), .c (.int .i64 (ey)), .c (.int .i64 (ez)), .t (.rows em)]), (1, .cells 53 [.c (.int .i64 (if eoOk ex' ey ez em = true then 2 else 0)), .c (.int .i64 (if eoOk ex' ey ez em = true then 2 else 0)), .c (.int .i64 (if eoOk ex' ey ez em = true then W (ez + ez) else 0)), .t (.rows (eoR ex' ey ez em))])], 2⟩ : St)) (by refine ⟨rfl, rfl, ?_, ?_⟩ <;> ((repeat' (first | exact trivial | exact rfl | refine And.intro ?_ ?_)) <;> (try ((conv => whnf); first | refine vint ?_ | refine vboo ?_ | refine rint ?_ | refine rrow ?_ | skip)) <;> (try first | omega | (simp; done) | ((repeat rw [flts_closed _ (by assumption)]); exact vws_closed _ (by assumption))))) ⟨⟨rfl, rfl, rfl, rfl, trivial⟩, trivial⟩ ?_
            revert h5
            exact key
          · conv => whnf
            exact ⟨rfl, rfl⟩
        · conv => whnf
          refine ⟨fun h5 => ?_, fun h5 => ?_⟩
          · conv => whnf
            refine ACallS.view (R := [(0, .row 3), (1, .row 4)]) (args' := [.ag [.c (.int .i64 (ex')), .c (.int .i64 (ey)), .c (.int .i64 (ez)), .t (.rows em)]]) (st' := (⟨349, [(2, .c (.bool false)), (30, .ptr 0 0), (31, .ptr 1 0)], [(0, .cells 53 [.c (.int .i64 (ex')), .c (.int .i64 (ey)), .c (.int .i64 (ez)), .t (.rows em)]), (1, .cells 53 [.c (.int .i64 (if eoOk ex' ey ez em = true then 2 else 0)), .c (.int .i64 (if eoOk ex' ey ez em = true then 2 else 0)), .c (.int .i64 (if eoOk ex' ey ez em = true then W (ez + ez) else 0)), .t (.rows (eoR ex' ey ez em))])], 2⟩ : St)) (by refine ⟨rfl, rfl, ?_, ?_⟩ <;> ((repeat' (first | exact trivial | exact rfl | refine And.intro ?_ ?_)) <;> (try ((conv => whnf); first | refine vint ?_ | refine vboo ?_ | refine rint ?_ | refine rrow ?_ | skip)) <;> (try first | omega | (simp; done) | ((repeat rw [flts_closed _ (by assumption)]); exact vws_closed _ (by assumption))))) ⟨⟨rfl, rfl, rfl, rfl, trivial⟩, trivial⟩ ?_
            revert h5
            exact key
          · conv => whnf
            exact ⟨rfl, rfl⟩
      · conv => whnf
        refine ⟨fun h4 => ?_, fun h4 => ?_⟩
        · obtain ⟨q1, ⟨n, en, hn, ql, qv⟩, q5, q6⟩ := Qn h4
          conv => whnf
          refine ACall.use (EightSums_i _ _ (if nsOk ms sh no = true then nsW sh no else 0) (nsR ms sh no) (ite_in _ inr2) (ite_in _ inr2) (ite_in _ (W_inr _)) q5 q6) ?_
          conv => whnf
          refine ⟨fun _ => ?_, fun h => absurd h (by simp [q1])⟩
          conv => whnf
          refine ⟨fun _ => ?_, fun h => absurd h (by simp [ql])⟩
          refine ⟨n, en, by rw [ql]; exact hn, ?_⟩
          conv => whnf
          rw [qv]
          refine ⟨fun h => absurd h (by simp []), fun _ => ?_⟩
          conv => whnf
          refine ⟨fun h5 => ?_, fun h5 => ?_⟩
          · conv => whnf
            refine ACallS.view (R := [(0, .row 3), (1, .row 4)]) (args' := [.ag [.c (.int .i64 (ex')), .c (.int .i64 (ey)), .c (.int .i64 (ez)), .t (.rows em)]]) (st' := (⟨349, [(2, .c (.bool false)), (30, .ptr 0 0), (31, .ptr 1 0)], [(0, .cells 53 [.c (.int .i64 (ex')), .c (.int .i64 (ey)), .c (.int .i64 (ez)), .t (.rows em)]), (1, .cells 53 [.c (.int .i64 (if eoOk ex' ey ez em = true then 2 else 0)), .c (.int .i64 (if eoOk ex' ey ez em = true then 2 else 0)), .c (.int .i64 (if eoOk ex' ey ez em = true then W (ez + ez) else 0)), .t (.rows (eoR ex' ey ez em))])], 2⟩ : St)) (by refine ⟨rfl, rfl, ?_, ?_⟩ <;> ((repeat' (first | exact trivial | exact rfl | refine And.intro ?_ ?_)) <;> (try ((conv => whnf); first | refine vint ?_ | refine vboo ?_ | refine rint ?_ | refine rrow ?_ | skip)) <;> (try first | omega | (simp; done) | ((repeat rw [flts_closed _ (by assumption)]); exact vws_closed _ (by assumption))))) ⟨⟨rfl, rfl, rfl, rfl, trivial⟩, trivial⟩ ?_
            revert h5
            exact key
          · conv => whnf
            exact ⟨rfl, rfl⟩
        · conv => whnf
          refine ⟨fun h5 => ?_, fun h5 => ?_⟩
          · conv => whnf
            refine ACallS.view (R := [(0, .row 3), (1, .row 4)]) (args' := [.ag [.c (.int .i64 (ex')), .c (.int .i64 (ey)), .c (.int .i64 (ez)), .t (.rows em)]]) (st' := (⟨349, [(2, .c (.bool false)), (30, .ptr 0 0), (31, .ptr 1 0)], [(0, .cells 53 [.c (.int .i64 (ex')), .c (.int .i64 (ey)), .c (.int .i64 (ez)), .t (.rows em)]), (1, .cells 53 [.c (.int .i64 (if eoOk ex' ey ez em = true then 2 else 0)), .c (.int .i64 (if eoOk ex' ey ez em = true then 2 else 0)), .c (.int .i64 (if eoOk ex' ey ez em = true then W (ez + ez) else 0)), .t (.rows (eoR ex' ey ez em))])], 2⟩ : St)) (by refine ⟨rfl, rfl, ?_, ?_⟩ <;> ((repeat' (first | exact trivial | exact rfl | refine And.intro ?_ ?_)) <;> (try ((conv => whnf); first | refine vint ?_ | refine vboo ?_ | refine rint ?_ | refine rrow ?_ | skip)) <;> (try first | omega | (simp; done) | ((repeat rw [flts_closed _ (by assumption)]); exact vws_closed _ (by assumption))))) ⟨⟨rfl, rfl, rfl, rfl, trivial⟩, trivial⟩ ?_
            revert h5
            exact key
          · conv => whnf
            exact ⟨rfl, rfl⟩
    · conv => whnf
      refine ⟨fun h1 => ?_, fun h1 => ?_⟩
      · obtain ⟨q1, ⟨n, en, hn, ql, qv⟩, q5, q6⟩ := Qk h1
        conv => whnf
        refine ACall.use (EightSums_i _ _ _ (eqRes k) (ite_in _ inr2) (ite_in _ inr2) (ite_in _ inr2) q5 q6) ?_
        conv => whnf
        refine ⟨fun _ => ?_, fun h => absurd h (by simp [q1])⟩
        conv => whnf
        refine ⟨fun _ => ?_, fun h => absurd h (by simp [ql])⟩
        refine ⟨n, en, by rw [ql]; exact hn, ?_⟩
        conv => whnf
        rw [qv]
        refine ⟨fun h => absurd h (by simp []), fun _ => ?_⟩
        conv => whnf
        refine ⟨fun h4 => ?_, fun h4 => ?_⟩
        · obtain ⟨q1, ⟨n, en, hn, ql, qv⟩, q5, q6⟩ := Qn h4
          conv => whnf
          refine ACall.use (EightSums_i _ _ (if nsOk ms sh no = true then nsW sh no else 0) (nsR ms sh no) (ite_in _ inr2) (ite_in _ inr2) (ite_in _ (W_inr _)) q5 q6) ?_
          conv => whnf
          refine ⟨fun _ => ?_, fun h => absurd h (by simp [q1])⟩
          conv => whnf
          refine ⟨fun _ => ?_, fun h => absurd h (by simp [ql])⟩
          refine ⟨n, en, by rw [ql]; exact hn, ?_⟩
          conv => whnf
          rw [qv]
          refine ⟨fun h => absurd h (by simp []), fun _ => ?_⟩
          conv => whnf
          refine ⟨fun h5 => ?_, fun h5 => ?_⟩
          · conv => whnf
            refine ACallS.view (R := [(0, .row 3), (1, .row 4)]) (args' := [.ag [.c (.int .i64 (ex')), .c (.int .i64 (ey)), .c (.int .i64 (ez)), .t (.rows em)]]) (st' := (⟨349, [(2, .c (.bool false)), (30, .ptr 0 0), (31, .ptr 1 0)], [(0, .cells 53 [.c (.int .i64 (ex')), .c (.int .i64 (ey)), .c (.int .i64 (ez)), .t (.rows em)]), (1, .cells 53 [.c (.int .i64 (if eoOk ex' ey ez em = true then 2 else 0)), .c (.int .i64 (if eoOk ex' ey ez em = true then 2 else 0)), .c (.int .i64 (if eoOk ex' ey ez em = true then W (ez + ez) else 0)), .t (.rows (eoR ex' ey ez em))])], 2⟩ : St)) (by refine ⟨rfl, rfl, ?_, ?_⟩ <;> ((repeat' (first | exact trivial | exact rfl | refine And.intro ?_ ?_)) <;> (try ((conv => whnf); first | refine vint ?_ | refine vboo ?_ | refine rint ?_ | refine rrow ?_ | skip)) <;> (try first | omega | (simp; done) | ((repeat rw [flts_closed _ (by assumption)]); exact vws_closed _ (by assumption))))) ⟨⟨rfl, rfl, rfl, rfl, trivial⟩, trivial⟩ ?_
            revert h5
            exact key
          · conv => whnf
            exact ⟨rfl, rfl⟩
        · conv => whnf
          refine ⟨fun h5 => ?_, fun h5 => ?_⟩
          · conv => whnf
            refine ACallS.view (R := [(0, .row 3), (1, .row 4)]) (args' := [.ag [.c (.int .i64 (ex')), .c (.int .i64 (ey)), .c (.int .i64 (ez)), .t (.rows em)]]) (st' := (⟨349, [(2, .c (.bool false)), (30, .ptr 0 0), (31, .ptr 1 0)], [(0, .cells 53 [.c (.int .i64 (ex')), .c (.int .i64 (ey)), .c (.int .i64 (ez)), .t (.rows em)]), (1, .cells 53 [.c (.int .i64 (if eoOk ex' ey ez em = true then 2 else 0)), .c (.int .i64 (if eoOk ex' ey ez em = true then 2 else 0)), .c (.int .i64 (if eoOk ex' ey ez em = true then W (ez + ez) else 0)), .t (.rows (eoR ex' ey ez em))])], 2⟩ : St)) (by refine ⟨rfl, rfl, ?_, ?_⟩ <;> ((repeat' (first | exact trivial | exact rfl | refine And.intro ?_ ?_)) <;> (try ((conv => whnf); first | refine vint ?_ | refine vboo ?_ | refine rint ?_ | refine rrow ?_ | skip)) <;> (try first | omega | (simp; done) | ((repeat rw [flts_closed _ (by assumption)]); exact vws_closed _ (by assumption))))) ⟨⟨rfl, rfl, rfl, rfl, trivial⟩, trivial⟩ ?_
            revert h5
            exact key
          · conv => whnf
            exact ⟨rfl, rfl⟩
      · conv => whnf
        refine ⟨fun h4 => ?_, fun h4 => ?_⟩
        · obtain ⟨q1, ⟨n, en, hn, ql, qv⟩, q5, q6⟩ := Qn h4
          conv => whnf
          refine ACall.use (EightSums_i _ _ (if nsOk ms sh no = true then nsW sh no else 0) (nsR ms sh no) (ite_in _ inr2) (ite_in _ inr2) (ite_in _ (W_inr _)) q5 q6) ?_
          conv => whnf
          refine ⟨fun _ => ?_, fun h => absurd h (by simp [q1])⟩
          conv => whnf
          refine ⟨fun _ => ?_, fun h => absurd h (by simp [ql])⟩
          refine ⟨n, en, by rw [ql]; exact hn, ?_⟩
          conv => whnf
          rw [qv]
          refine ⟨fun h => absurd h (by simp []), fun _ => ?_⟩
          conv => whnf
          refine ⟨fun h5 => ?_, fun h5 => ?_⟩
          · conv => whnf
            refine ACallS.view (R := [(0, .row 3), (1, .row 4)]) (args' := [.ag [.c (.int .i64 (ex')), .c (.int .i64 (ey)), .c (.int .i64 (ez)), .t (.rows em)]]) (st' := (⟨349, [(2, .c (.bool false)), (30, .ptr 0 0), (31, .ptr 1 0)], [(0, .cells 53 [.c (.int .i64 (ex')), .c (.int .i64 (ey)), .c (.int .i64 (ez)), .t (.rows em)]), (1, .cells 53 [.c (.int .i64 (if eoOk ex' ey ez em = true then 2 else 0)), .c (.int .i64 (if eoOk ex' ey ez em = true then 2 else 0)), .c (.int .i64 (if eoOk ex' ey ez em = true then W (ez + ez) else 0)), .t (.rows (eoR ex' ey ez em))])], 2⟩ : St)) (by refine ⟨rfl, rfl, ?_, ?_⟩ <;> ((repeat' (first | exact trivial | exact rfl | refine And.intro ?_ ?_)) <;> (try ((conv => whnf); first | refine vint ?_ | refine vboo ?_ | refine rint ?_ | refine rrow ?_ | skip)) <;> (try first | omega | (simp; done) | ((repeat rw [flts_closed _ (by assumption)]); exact vws_closed _ (by assumption))))) ⟨⟨rfl, rfl, rfl, rfl, trivial⟩, trivial⟩ ?_
            revert h5
            exact key
          · conv => whnf
            exact ⟨rfl, rfl⟩
        · conv => whnf
          refine ⟨fun h5 => ?_, fun h5 => ?_⟩
          · conv => whnf
            refine ACallS.view (R := [(0, .row 3), (1, .row 4)]) (args' := [.ag [.c (.int .i64 (ex')), .c (.int .i64 (ey)), .c (.int .i64 (ez)), .t (.rows em)]]) (st' := (⟨349, [(2, .c (.bool false)), (30, .ptr 0 0), (31, .ptr 1 0)], [(0, .cells 53 [.c (.int .i64 (ex')), .c (.int .i64 (ey)), .c (.int .i64 (ez)), .t (.rows em)]), (1, .cells 53 [.c (.int .i64 (if eoOk ex' ey ez em = true then 2 else 0)), .c (.int .i64 (if eoOk ex' ey ez em = true then 2 else 0)), .c (.int .i64 (if eoOk ex' ey ez em = true then W (ez + ez) else 0)), .t (.rows (eoR ex' ey ez em))])], 2⟩ : St)) (by refine ⟨rfl, rfl, ?_, ?_⟩ <;> ((repeat' (first | exact trivial | exact rfl | refine And.intro ?_ ?_)) <;> (try ((conv => whnf); first | refine vint ?_ | refine vboo ?_ | refine rint ?_ | refine rrow ?_ | skip)) <;> (try first | omega | (simp; done) | ((repeat rw [flts_closed _ (by assumption)]); exact vws_closed _ (by assumption))))) ⟨⟨rfl, rfl, rfl, rfl, trivial⟩, trivial⟩ ?_
            revert h5
            exact key
          · conv => whnf
            exact ⟨rfl, rfl⟩
  case x =>
    intro h5
    have h5 : eoOk ex' ey ez em = true := h5
    have h5' := h5
    simp only [eoOk, Bool.and_eq_true, decide_eq_true_eq] at h5'
    obtain ⟨hp, hz2⟩ := h5'
    obtain ⟨f1, f2, f3⟩ := eo_facts hp hz2
    have hg : goodB ex' ey ez em = true := by rw [pairB, Bool.and_eq_true] at hp; exact hp.1
    have hl4 : em.length = 4 := (pairB_spec hp).2.2.2.2.1
    have hze : W (ez + ez) = ez + ez := wS (by have := (pairB_spec hp).2.2.1; omega) (by omega)
    have f3q : qpB 2 2 (ez + ez) (eoM em) = true := by rw [ebV, Bool.and_eq_true] at f3; exact f3.1
    have hpe : pairB 2 2 (ez + ez) (eoM em) = true := by rw [qpB, Bool.and_eq_true] at f3q; exact f3q.1
    have hge : goodB 2 2 (ez + ez) (eoM em) = true := by rw [pairB, Bool.and_eq_true] at hpe; exact hpe.1
    have sme := ((eo_R4 em).sm (boxRows_len _ 2 2) (by omega)).ok
    have A1 : agOf ex' ey ez em = em.map agr := by rw [agOf, if_pos hg]
    have E2 : (if eoOk ex' ey ez em = true then (2 : Int) else 0) = 2 := if_pos h5
    have E3 : (if eoOk ex' ey ez em = true then W (ez + ez) else 0) = ez + ez := by rw [if_pos h5, hze]
    have E4 : eoR ex' ey ez em = eoM em := by rw [eoR, if_pos h5]
    have A2 : agOf 2 2 (ez + ez) (eoM em) = em.map fun r => 2 * agr r := by rw [agOf, if_pos hge, f1]
    rw [E2, E3, E4]
    refine ACall.use (AgreementsOf_i ex' ey ez em hem.ok.2) ?_
    conv => whnf
    refine ACall.use (AgreementsOf_i 2 2 (ez + ez) (eoM em) sme.2) ?_
    conv => whnf
    refine ACall.use (IsQuiet_i ex' ey ez em hem.ok.2) ?_
    conv => whnf
    refine ACall.use (IsEvenBox_i 2 2 (ez + ez) (eoM em) inr2 inr2 (by have := (pairB_spec hp).2.2.1; unfold InR; omega) sme.1 sme.2) ?_
    conv => whnf
    rw [A1, A2]
    refine ⟨fun _ => ?_, fun h => absurd h (by simp [hg])⟩
    conv => whnf
    refine ⟨fun _ => ?_, fun h => absurd h (by simp [hge])⟩
    conv => whnf
    refine ⟨fun _ => ?_, fun h => absurd h (by simp [hg])⟩
    conv => whnf
    refine ⟨fun hq => ?_, fun hq => ?_⟩
    · conv => whnf
      refine ⟨fun _ => ?_, fun h => absurd h (by simp [f3q])⟩
      conv => whnf
      refine ⟨fun _ => ?_, fun h => absurd h (by simp [f3q, f3])⟩
      conv => whnf
      refine ⟨fun h => absurd h (by simp [hl4]), fun _ => ?_⟩
      conv => whnf
      refine aloopI tyOk mx (fun n : Nat => (⟨349, [(48, .own 0), (50, .own 1), (56, .c (.int .i64 (n)))], [(0, .ints 3 .i64 (em.map agr)), (1, .ints 3 .i64 (em.map fun r => 2 * agr r))], 2⟩ : St)) (fun n => n ≤ em.length) (fun n => em.length - n) 0 (Nat.zero_le _) (some [(0, .row 2), (1, .row 3)]) (by (refine ⟨rfl, rfl, ?_, ?_⟩ <;> ((repeat' (first | exact trivial | exact rfl | refine And.intro ?_ ?_)) <;> (try ((conv => whnf); first | refine vint ?_ | refine vboo ?_ | refine rint ?_ | refine rrow ?_ | skip)) <;> (try first | omega | (simp; done) | ((repeat rw [flts_closed _ (by assumption)]); exact vws_closed _ (by assumption)))))) (fun n hn => ?_)
      refine ⟨fun h2 => ?_, fun h2 => ?_⟩
      · have h2 : n < em.length := by have := ltT h2; rw [List.length_map] at this; exact this
        refine ADraw.std tyOk mx ⟨by kernel_rfl, n, rfl, by rw [List.length_map]; exact h2, n, rfl, by rw [List.length_map]; exact h2, ?_⟩
        have v1 : (em.map agr).getD n 0 = agr (em.getD n []) := map_getD h2
        have v2 : (em.map fun r => 2 * agr r).getD n 0 = 2 * agr (em.getD n []) := map_getD h2
        have hb := f2 _ (getD_mem (d := []) h2)
        have hw : IntKind.i64.wrap (2 * agr (em.getD n [])) = 2 * agr (em.getD n []) := w64 (by omega) (by omega)
        conv => whnf
        rw [v1, v2, hw]
        refine ⟨fun h => absurd h (by simp []), fun _ => ?_⟩
        conv => whnf
        rw [nat_wrap (by omega)]
        exact ⟨n + 1, none, (by (refine ⟨rfl, rfl, ?_, ?_⟩ <;> ((repeat' (first | exact trivial | exact rfl | refine And.intro ?_ ?_)) <;> (try ((conv => whnf); first | refine vint ?_ | refine vboo ?_ | refine rint ?_ | refine rrow ?_ | skip)) <;> (try first | omega | (simp; done) | ((repeat rw [flts_closed _ (by assumption)]); exact vws_closed _ (by assumption)))))), by omega, by omega⟩
      · conv => whnf
        exact ⟨rfl, rfl⟩
    · conv => whnf
      refine ⟨fun _ => ?_, fun h => absurd h (by simp [])⟩
      conv => whnf
      refine ⟨fun h => absurd h (by simp [hl4]), fun _ => ?_⟩
      conv => whnf
      refine aloopI tyOk mx (fun n : Nat => (⟨349, [(48, .own 0), (50, .own 1), (56, .c (.int .i64 (n)))], [(0, .ints 3 .i64 (em.map agr)), (1, .ints 3 .i64 (em.map fun r => 2 * agr r))], 2⟩ : St)) (fun n => n ≤ em.length) (fun n => em.length - n) 0 (Nat.zero_le _) (some [(0, .row 2), (1, .row 3)]) (by (refine ⟨rfl, rfl, ?_, ?_⟩ <;> ((repeat' (first | exact trivial | exact rfl | refine And.intro ?_ ?_)) <;> (try ((conv => whnf); first | refine vint ?_ | refine vboo ?_ | refine rint ?_ | refine rrow ?_ | skip)) <;> (try first | omega | (simp; done) | ((repeat rw [flts_closed _ (by assumption)]); exact vws_closed _ (by assumption)))))) (fun n hn => ?_)
      refine ⟨fun h2 => ?_, fun h2 => ?_⟩
      · have h2 : n < em.length := by have := ltT h2; rw [List.length_map] at this; exact this
        refine ADraw.std tyOk mx ⟨by kernel_rfl, n, rfl, by rw [List.length_map]; exact h2, n, rfl, by rw [List.length_map]; exact h2, ?_⟩
        have v1 : (em.map agr).getD n 0 = agr (em.getD n []) := map_getD h2
        have v2 : (em.map fun r => 2 * agr r).getD n 0 = 2 * agr (em.getD n []) := map_getD h2
        have hb := f2 _ (getD_mem (d := []) h2)
        have hw : IntKind.i64.wrap (2 * agr (em.getD n [])) = 2 * agr (em.getD n []) := w64 (by omega) (by omega)
        conv => whnf
        rw [v1, v2, hw]
        refine ⟨fun h => absurd h (by simp []), fun _ => ?_⟩
        conv => whnf
        rw [nat_wrap (by omega)]
        exact ⟨n + 1, none, (by (refine ⟨rfl, rfl, ?_, ?_⟩ <;> ((repeat' (first | exact trivial | exact rfl | refine And.intro ?_ ?_)) <;> (try ((conv => whnf); first | refine vint ?_ | refine vboo ?_ | refine rint ?_ | refine rrow ?_ | skip)) <;> (try first | omega | (simp; done) | ((repeat rw [flts_closed _ (by assumption)]); exact vws_closed _ (by assumption)))))), by omega, by omega⟩
      · conv => whnf
        exact ⟨rfl, rfl⟩
end Go.Proofs.Ytkomndcehdneaaa
/- From a contract of the engine to a law's row. -/
namespace Go.Aw
open Go.ChangeShapes Go.WideShapes Go.ChangeAt Go.RowKit Go.Deep

section
variable {H : Type} {enc : TypeId × Value → H} {P : Program}

theorem carryAll (hl : laidOutB P = true) {W W' : World} (hb : Below W.heap.size W W') : ∀ {ts : List TypeId} {vs : List Value} {ds : List (DataW H)} {ps : List MemPlace},
    (ts.all fun t => P.readableRec t && decide (t < P.types.size)) = true → (∀ x ∈ ps, x.block < W.heap.size) →
    DataW.TrodAll enc P W 0 (fun _ => true) true ts vs ds ps → DataW.TrodAll enc P W' 0 (fun b => decide (b < W.heap.size)) true ts vs ds ps
  | [], [], [], _, _, _, h => h
  | t :: ts, v :: vs, d :: ds, ps, hr, hlt, h => by
    obtain ⟨p, q, h1, h2, rfl⟩ := h
    simp only [List.all_cons, Bool.and_eq_true, decide_eq_true_eq] at hr
    exact ⟨p, q, Below.trod hl hr.1.1 hr.1.2 h1 hb (fun x hx => hlt x (List.mem_append.2 (.inl hx))), carryAll hl hb hr.2 (fun x hx => hlt x (List.mem_append.2 (.inr hx))) h2, rfl⟩
  | [], [], _ :: _, _, _, _, h => h.elim
  | [], _ :: _, _, _, _, _, h => h.elim
  | _ :: _, [], _, _, _, _, h => h.elim
  | _ :: _, _ :: _, [], _, _, _, h => h.elim

theorem law_post (hl : laidOutB P = true) {f : Func} {s : ChangeSpec} {W W' : World} {args : Array Value} {ds gs : List (DataW H)} {before : List MemPlace} {tb : TypeId} (hs : s.vars = [])
    (hW : DataW.Whole enc P f.params.toList s.vars false W args.toList ds gs before) (hrt : f.resultTypes = #[tb]) (htb : P.underlying tb = some .bool)
    (hr : (f.params.toList.all fun t => P.readableRec t && decide (t < P.types.size)) = true) (h1 : (s.fn H (ds ++ [])).results = [.lit (.bool true)]) (h2 : (s.fn H (ds ++ [])).args = ds) (h3 : (s.fn H (ds ++ [])).vars = [])
    (hb : Below W.heap.size W W') : s.post enc P f false true false false W args (.bool true) W' := by
  have hW' := hW
  obtain ⟨p, q, hA, hV, hbe, hfz, _⟩ := hW
  rw [hs] at hV
  match gs, hV with
  | [], hV =>
    have hq : q = [] := hV
    subst hq
    rw [List.append_nil] at hbe
    subst hbe
    have hlt : ∀ x ∈ before, x.block < W.heap.size := fun x hx => by simpa using hW'.lt x hx
    refine ⟨ds, [], before, [], before, [], hW', ?_, ?_, ?_, hb.frame _, fun h => by cases h⟩
    · rw [h1, hrt]
      exact trodAll_mk1 (shut_bool htb true)
    · rw [h2]
      exact carryAll hl hb hr hlt hA
    · rw [h3, hs]; rfl

theorem cell_plain {w : World} {a : Addr} {v : Value} (h : w.cell? a = some v) : a = ⟨a.block, a.off, none⟩ := by
  obtain ⟨b, o, s⟩ := a
  have := World.cell?_spot h
  simp only at this
  subst this; rfl

/-- a slice of integers that came in -/
theorem rep_ints {t q : TypeId} {k : IntKind} (ht : P.underlying t = some (.slice q)) (hq : P.underlying q = some (.int k)) (cq : P.cellsOf q = 1) {W : World} {a : Option Addr} {n c : Nat} {d : DataW H} {ps : List MemPlace}
    (h : DataW.Trod enc P W 0 (fun _ => true) true t (.slice a n c) d ps) (bad : Nat → Prop) (hbad : ∀ b, b < W.heap.size → ¬ bad b) :
    ∃ l : List Int, SInts W bad k l (.slice a n c) ∧ l.length ≤ 9223372036854775807 ∧ ∀ x ∈ l, (Lit.int k x).wf = true := by
  obtain ⟨fuel, hf⟩ := h
  rcases open_ints ht hq cq hf with ⟨hcs, -⟩ | ⟨a', len, cap, zs, hcs, _, hl, hm, hz, _, hcell, hwz⟩
  · simp [Value.cells] at hcs
    obtain ⟨rfl, rfl, rfl⟩ := hcs
    exact ⟨[], ⟨none, 0, rfl, Nat.le_refl _, Nat.zero_le _, fun i x hi => by simp at hi⟩, by simp, by simp⟩
  · simp [Value.cells] at hcs
    obtain ⟨rfl, rfl, rfl⟩ := hcs
    simp only [if_true] at hz
    have hlen : (zs.take n).length = n := by rw [List.length_take]; omega
    refine ⟨zs.take n, ⟨some a', c, by rw [hlen], by rw [hlen]; exact hl, hm, fun i x hi => ?_⟩, ?_, fun x hx => hwz x (List.mem_of_mem_take hx)⟩
    · have hin : i < n := by have := (List.getElem?_eq_some_iff.1 hi).1; omega
      have h0 := hcell i (by omega)
      have hlt := World.block_lt_of_cell? W _ (hcell 0 (by omega))
      have hpl := cell_plain (hcell 0 (by omega))
      simp only [Addr.add, if_true] at hpl hlt
      refine ⟨a'.block, a'.off, congrArg some hpl, hbad _ hlt, ?_⟩
      have hx : zs.getD i 0 = x := by
        rw [List.getElem?_take_of_lt hin] at hi
        rw [List.getD_eq_getElem?_getD, hi]; rfl
      rw [hx, hpl, add_plain] at h0
      exact h0
    · rw [hlen]; unfold maxLen at hm; omega

/-- a slice of slices of integers that came in -/
theorem rep_rows {t e q : TypeId} (ht : P.underlying t = some (.slice e)) (he : P.underlying e = some (.slice q)) (hq : P.underlying q = some (.int .i64)) (ce : P.cellsOf e = 1) (cq : P.cellsOf q = 1) {W : World} {a : Option Addr} {n c : Nat} {d : DataW H} {ps : List MemPlace}
    (h : DataW.Trod enc P W 0 (fun _ => true) true t (.slice a n c) d ps) (bad : Nat → Prop) (hbad : ∀ b, b < W.heap.size → ¬ bad b) :
    ∃ m : List (List Int), SRows W bad m (.slice a n c) ∧ m.length ≤ 9223372036854775807 ∧ (∀ l ∈ m, l.length ≤ 9223372036854775807) ∧ ∀ l ∈ m, ∀ x ∈ l, (Lit.int .i64 x).wf = true := by
  obtain ⟨fuel, hf⟩ := h
  rcases open_int_rows ht he hq ce cq hf with ⟨hcs, -⟩ | ⟨a', len, cap, A, L, C, Z, hcs, _, hl, hm, _, hrow⟩
  · simp [Value.cells] at hcs
    obtain ⟨rfl, rfl, rfl⟩ := hcs
    exact ⟨[], ⟨none, 0, rfl, Nat.le_refl _, Nat.zero_le _, fun i x hi => by simp at hi⟩, by simp, by simp, by simp⟩
  · simp [Value.cells] at hcs
    obtain ⟨rfl, rfl, rfl⟩ := hcs
    have hlen : ((List.range n).map fun r => (Z r).take (L r)).length = n := by simp
    have hlr : ∀ r, r < c → ((Z r).take (L r)).length = L r := fun r hr => by
      obtain ⟨_, h1, _, h3, _⟩ := hrow r hr
      rw [List.length_take]; omega
    refine ⟨(List.range n).map fun r => (Z r).take (L r), ⟨some a', c, by rw [hlen], by rw [hlen]; exact hl, hm, fun i l hi => ?_⟩, ?_, ?_, ?_⟩
    · have hin : i < n := by have := (List.getElem?_eq_some_iff.1 hi).1; omega
      have hil : (Z i).take (L i) = l := by simpa [List.getElem?_map, List.getElem?_range hin] using hi
      obtain ⟨h0, h1, h2, h3, h4, h5, h6⟩ := hrow i (by omega)
      have hlt := World.block_lt_of_cell? W _ (hrow 0 (by omega)).1
      have hpl := cell_plain (hrow 0 (by omega)).1
      simp only [Addr.add, if_true] at hpl hlt
      refine ⟨a'.block, a'.off, .slice (A i) (L i) (C i), congrArg some hpl, hbad _ hlt, ?_, ?_⟩
      · rw [hpl, add_plain] at h0
        exact h0
      · subst hil
        have hli := hlr i (by omega)
        refine ⟨A i, C i, by rw [hli], by rw [hli]; exact h1, h2, fun j x hj => ?_⟩
        have hjl : j < L i := by have := (List.getElem?_eq_some_iff.1 hj).1; omega
        cases hA : A i with
        | none => have := h5 hA; omega
        | some b =>
          obtain ⟨_, h7⟩ := h6 b hA
          have hlt2 := World.block_lt_of_cell? W _ (h7 0 (by omega))
          have hpl2 := cell_plain (h7 0 (by omega))
          simp only [Addr.add, if_true] at hpl2 hlt2
          have h8 := h7 j (by omega)
          refine ⟨b.block, b.off, congrArg some hpl2, hbad _ hlt2, ?_⟩
          have hx : (Z i).getD j 0 = x := by
            rw [List.getElem?_take_of_lt hjl] at hj
            rw [List.getD_eq_getElem?_getD, hj]; rfl
          rw [hx, hpl2, add_plain] at h8
          exact h8
    · rw [hlen]; unfold maxLen at hm; omega
    · intro l hl'
      obtain ⟨r, hr, rfl⟩ := List.mem_map.1 hl'
      have hrn := List.mem_range.1 hr
      rw [hlr r (by omega)]
      obtain ⟨_, h1, h2, _⟩ := hrow r (by omega)
      unfold maxLen at h2; omega
    · intro l hl' x hx
      obtain ⟨r, hr, rfl⟩ := List.mem_map.1 hl'
      have hrn := List.mem_range.1 hr
      exact (hrow r (by omega)).2.2.2.2.1 x (List.mem_of_mem_take hx)
end

/-- the contract of a law, run -/
theorem FSpec.law {P : Program} {f : FuncId} {args : List AVal} (h : FSpec P f args (ex (.c (.bool true)) [])) {W : World} {vs : List Value} (hv : VReps W (fun _ => False) [] 0 η0 args vs) :
    Calls P f vs.toArray W fun e W' => e = .returned (.bool true) ∧ Below W.heap.size W W' := by
  refine (h.2 W (fun _ => False) vs (fun _ h => h.elim) hv).mono ?_
  rintro e W' ⟨v, x, hr, η, rfl, ⟨rfl, rfl⟩, hb, _, hx⟩
  exact ⟨by rw [hx.1], hb⟩
end Go.Aw
namespace Go.Proofs.Ytkomndcehdneaaa
theorem own : ownKnob Try.prog.godebug = none := by kernel_rfl
theorem laidOut : laidOutB Try.prog = true := by kernel_rfl
end Go.Proofs.Ytkomndcehdneaaa
/- Arguments of laws, of each type: what they read as. -/
namespace Go.Aw
open Go.ChangeShapes Go.WideShapes Go.ChangeAt Go.RowKit Go.Deep Go.Joins

theorem wf_InR {n : Int} (h : (Lit.int .i64 n).wf = true) : InR n := by
  have e1 : IntKind.i64.min = -9223372036854775808 := by decide
  have e2 : IntKind.i64.max = 9223372036854775807 := by decide
  simp [Lit.wf] at h
  unfold InR
  omega

section
variable {H : Type} {enc : TypeId × Value → H} {P : Program}

theorem arg_int {t : TypeId} (ht : P.underlying t = some (.int .i64)) {W : World} {r : Reach} {b0 : Nat} {v : Value} {d : DataW H} {ps : List MemPlace} (hv : Value.okWide P W r b0 t v) (h : DataW.Trod enc P W 0 (fun _ => true) true t v d ps) :
    ∃ n, InR n ∧ VRep W (fun _ => False) [] 0 η0 (.c (.int .i64 n)) v := by
  obtain ⟨n, rfl, _, _, hw⟩ := open_int ht hv h
  exact ⟨n, wf_InR hw, rfl, rfl⟩

theorem arg_ints {t q : TypeId} (ht : P.underlying t = some (.slice q)) (hq : P.underlying q = some (.int .i64)) (cq : P.cellsOf q = 1) {W : World} {r : Reach} {b0 : Nat} {v : Value} {d : DataW H} {ps : List MemPlace}
    (hv : Value.okWide P W r b0 t v) (h : DataW.Trod enc P W 0 (fun _ => true) true t v d ps) : ∃ l, OkI l ∧ VRep W (fun _ => False) [] 0 η0 (.t (.ints .i64 l)) v := by
  obtain ⟨a, n, c, rfl⟩ := okWide_slice ht hv
  obtain ⟨l, h1, h2, h3⟩ := rep_ints ht hq cq h (fun _ => False) (fun _ _ h => h)
  exact ⟨l, ⟨h2, fun x hx => wf_InR (h3 x hx)⟩, h1⟩

def OkBy (l : List Int) : Prop := l.length ≤ 9223372036854775807 ∧ ∀ x, x ∈ l → 0 ≤ x ∧ x ≤ 255
theorem wf_by {n : Int} (h : (Lit.int .u8 n).wf = true) : 0 ≤ n ∧ n ≤ 255 := by
  have e1 : IntKind.u8.min = 0 := by decide
  have e2 : IntKind.u8.max = 255 := by decide
  simp [Lit.wf] at h
  omega
theorem arg_bytes {t q : TypeId} (ht : P.underlying t = some (.slice q)) (hq : P.underlying q = some (.int .u8)) (cq : P.cellsOf q = 1) {W : World} {r : Reach} {b0 : Nat} {v : Value} {d : DataW H} {ps : List MemPlace}
    (hv : Value.okWide P W r b0 t v) (h : DataW.Trod enc P W 0 (fun _ => true) true t v d ps) : ∃ l, OkBy l ∧ VRep W (fun _ => False) [] 0 η0 (.t (.ints .u8 l)) v := by
  obtain ⟨a, n, c, rfl⟩ := okWide_slice ht hv
  obtain ⟨l, h1, h2, h3⟩ := rep_ints ht hq cq h (fun _ => False) (fun _ _ h => h)
  exact ⟨l, ⟨h2, fun x hx => wf_by (h3 x hx)⟩, h1⟩

theorem arg_rows {t e q : TypeId} (ht : P.underlying t = some (.slice e)) (he : P.underlying e = some (.slice q)) (hq : P.underlying q = some (.int .i64)) (ce : P.cellsOf e = 1) (cq : P.cellsOf q = 1) {W : World} {r : Reach} {b0 : Nat} {v : Value} {d : DataW H} {ps : List MemPlace}
    (hv : Value.okWide P W r b0 t v) (h : DataW.Trod enc P W 0 (fun _ => true) true t v d ps) : ∃ m, OkM m ∧ VRep W (fun _ => False) [] 0 η0 (.t (.rows m)) v := by
  obtain ⟨a, n, c, rfl⟩ := okWide_slice ht hv
  obtain ⟨m, h1, h2, h3, h4⟩ := rep_rows ht he hq ce cq h (fun _ => False) (fun _ _ h => h)
  exact ⟨m, ⟨h2, fun r hr => ⟨h3 r hr, fun x hx => wf_InR (h4 r hr x hx)⟩⟩, h1⟩

theorem in_int {t : TypeId} (ht : P.underlying t = some (.int .i64)) {W : World} {v : Value} {n : Nat} {y : DataW H × List MemPlace} (h : DataW.trod enc P W 0 (fun _ => true) true n t [v] = some y) :
    ∃ n, InR n ∧ VRep W (fun _ => False) [] 0 η0 (.c (.int .i64 n)) v := by
  obtain ⟨n', h1, _, hw⟩ := DataW.trod_int ht h
  simp at h1
  subst h1
  exact ⟨n', wf_InR hw, rfl, rfl⟩

theorem in_ints {t q : TypeId} (ht : P.underlying t = some (.slice q)) (hq : P.underlying q = some (.int .i64)) (cq : P.cellsOf q = 1) {W : World} {v : Value} {n : Nat} {y : DataW H × List MemPlace}
    (h : DataW.trod enc P W 0 (fun _ => true) true n t [v] = some y) : ∃ l, OkI l ∧ VRep W (fun _ => False) [] 0 η0 (.t (.ints .i64 l)) v := by
  obtain ⟨a, len, c, rfl⟩ : ∃ a len c, v = .slice a len c := by
    rcases open_ints ht hq cq h with ⟨hcs, -⟩ | ⟨a', len, cap, zs, hcs, _⟩
    · simp at hcs; exact ⟨_, _, _, hcs⟩
    · simp at hcs; exact ⟨_, _, _, hcs⟩
  obtain ⟨l, h1, h2, h3⟩ := rep_ints ht hq cq (d := y.1) (ps := y.2) ⟨n, by simpa [Value.cells] using h⟩ (fun _ => False) (fun _ _ h => h)
  exact ⟨l, ⟨h2, fun x hx => wf_InR (h3 x hx)⟩, h1⟩

theorem in_rows {t e q : TypeId} (ht : P.underlying t = some (.slice e)) (he : P.underlying e = some (.slice q)) (hq : P.underlying q = some (.int .i64)) (ce : P.cellsOf e = 1) (cq : P.cellsOf q = 1) {W : World} {v : Value} {n : Nat} {y : DataW H × List MemPlace}
    (h : DataW.trod enc P W 0 (fun _ => true) true n t [v] = some y) : ∃ m, OkM m ∧ VRep W (fun _ => False) [] 0 η0 (.t (.rows m)) v := by
  obtain ⟨a, len, c, rfl⟩ : ∃ a len c, v = .slice a len c := by
    rcases open_int_rows ht he hq ce cq h with ⟨hcs, -⟩ | ⟨a', len, cap, A, L, C, Z, hcs, _⟩
    · simp at hcs; exact ⟨_, _, _, hcs⟩
    · simp at hcs; exact ⟨_, _, _, hcs⟩
  obtain ⟨m, h1, h2, h3, h4⟩ := rep_rows ht he hq ce cq (d := y.1) (ps := y.2) ⟨n, by simpa [Value.cells] using h⟩ (fun _ => False) (fun _ _ h => h)
  exact ⟨m, ⟨h2, fun r hr => ⟨h3 r hr, fun x hx => wf_InR (h4 r hr x hx)⟩⟩, h1⟩

theorem arg_scene {t ti tm tl : TypeId} {f0 f1 f2 : Field} (hs : P.underlying t = some (.struct #[f0, f1, f2])) (hone : oneCellFields P #[f0, f1, f2] = true) (hC : P.cellsOf t = 3)
    (e0 : f0.type = ti) (e1 : f1.type = tm) (e2 : f2.type = tl) (hi : P.underlying ti = some (.int .i64)) (hl : P.underlying tl = some (.slice ti)) (hm : P.underlying tm = some (.slice tl)) (ci : P.cellsOf ti = 1) (cl : P.cellsOf tl = 1)
    {W : World} {r : Reach} {b0 : Nat} {v : Value} {d : DataW H} {ps : List MemPlace} (hv : Value.okWide P W r b0 t v) (h : DataW.Trod enc P W 0 (fun _ => true) true t v d ps) :
    ∃ e m s, InR e ∧ OkM m ∧ OkI s ∧ VRep W (fun _ => False) [] 0 η0 (.ag [.c (.int .i64 e), .t (.rows m), .t (.ints .i64 s)]) v := by
  obtain ⟨v0, v1, v2, y0, y1, y2, n, rfl, _, _, h0, h1, h2⟩ := open_agg3 hs hone hC hv h
  subst e0 e1 e2
  obtain ⟨e, g1, r1⟩ := in_int hi h0
  obtain ⟨m, g2, r2⟩ := in_rows hm hl hi cl ci h1
  obtain ⟨s, g3, r3⟩ := in_ints hl hi ci h2
  exact ⟨e, m, s, g1, g2, g3, [v0, v1, v2], rfl, r1, r2, r3, trivial⟩

theorem arg_box {t ti tm tl : TypeId} {f0 f1 f2 f3 : Field} (hs : P.underlying t = some (.struct #[f0, f1, f2, f3])) (hone : oneCellFields P #[f0, f1, f2, f3] = true) (hC : P.cellsOf t = 4)
    (e0 : f0.type = ti) (e1 : f1.type = ti) (e2 : f2.type = ti) (e3 : f3.type = tm) (hi : P.underlying ti = some (.int .i64)) (hl : P.underlying tl = some (.slice ti)) (hm : P.underlying tm = some (.slice tl)) (ci : P.cellsOf ti = 1) (cl : P.cellsOf tl = 1)
    {W : World} {r : Reach} {b0 : Nat} {v : Value} {d : DataW H} {ps : List MemPlace} (hv : Value.okWide P W r b0 t v) (h : DataW.Trod enc P W 0 (fun _ => true) true t v d ps) :
    ∃ x y z m, InR x ∧ InR y ∧ InR z ∧ OkM m ∧ VRep W (fun _ => False) [] 0 η0 (.ag [.c (.int .i64 x), .c (.int .i64 y), .c (.int .i64 z), .t (.rows m)]) v := by
  obtain ⟨v0, v1, v2, v3, y0, y1, y2, y3, n, rfl, _, _, h0, h1, h2, h3⟩ := open_agg4 hs hone hC hv h
  subst e0 e3
  rw [e1] at h1; rw [e2] at h2
  obtain ⟨x, g0, r0⟩ := in_int hi h0
  obtain ⟨y, g1, r1⟩ := in_int hi h1
  obtain ⟨z, g2, r2⟩ := in_int hi h2
  obtain ⟨m, g3, r3⟩ := in_rows hm hl hi cl ci h3
  exact ⟨x, y, z, m, g0, g1, g2, g3, [v0, v1, v2, v3], rfl, r0, r1, r2, r3, trivial⟩

theorem arg_game {t ti tm tl : TypeId} {f0 f1 f2 f3 : Field} (hs : P.underlying t = some (.struct #[f0, f1, f2, f3])) (hone : oneCellFields P #[f0, f1, f2, f3] = true) (hC : P.cellsOf t = 4)
    (e0 : f0.type = ti) (e1 : f1.type = ti) (e2 : f2.type = tl) (e3 : f3.type = tm) (hi : P.underlying ti = some (.int .i64)) (hl : P.underlying tl = some (.slice ti)) (hm : P.underlying tm = some (.slice tl)) (ci : P.cellsOf ti = 1) (cl : P.cellsOf tl = 1)
    {W : World} {r : Reach} {b0 : Nat} {v : Value} {d : DataW H} {ps : List MemPlace} (hv : Value.okWide P W r b0 t v) (h : DataW.Trod enc P W 0 (fun _ => true) true t v d ps) :
    ∃ x y s m, InR x ∧ InR y ∧ OkI s ∧ OkM m ∧ VRep W (fun _ => False) [] 0 η0 (.ag [.c (.int .i64 x), .c (.int .i64 y), .t (.ints .i64 s), .t (.rows m)]) v := by
  obtain ⟨v0, v1, v2, v3, y0, y1, y2, y3, n, rfl, _, _, h0, h1, h2, h3⟩ := open_agg4 hs hone hC hv h
  subst e0 e2 e3
  rw [e1] at h1
  obtain ⟨x, g0, r0⟩ := in_int hi h0
  obtain ⟨y, g1, r1⟩ := in_int hi h1
  obtain ⟨z, g2, r2⟩ := in_ints hl hi ci h2
  obtain ⟨m, g3, r3⟩ := in_rows hm hl hi cl ci h3
  exact ⟨x, y, z, m, g0, g1, g2, g3, [v0, v1, v2, v3], rfl, r0, r1, r2, r3, trivial⟩
end
end Go.Aw
