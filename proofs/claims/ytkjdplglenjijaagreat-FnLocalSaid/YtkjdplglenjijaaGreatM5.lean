/- Boxes as the draws make them: flipped ones, noise. -/
import Derived.Test.YtkjdplglenjijaaGreatM4
namespace Go.Proofs.YtkjdplglenjijaaGreat
open Go.Aw
set_option maxRecDepth 100000
set_option maxHeartbeats 4000000

theorem xorF {k : Nat} {f g : Int} (hk : k < 4) (hf : 0 ≤ f ∧ f ≤ 1) (hg : 0 ≤ g ∧ g ≤ 1) : ∃ q : Nat, bits .xor .i64 (k : Int) (IntKind.i64.wrap (IntKind.i64.wrap (2 * f) + g)) = (q : Int) ∧ q < 4 := by
  have : ∀ k : Nat, k < 4 → ∀ f : Nat, f < 2 → ∀ g : Nat, g < 2 → (bits .xor .i64 (k : Int) (IntKind.i64.wrap (IntKind.i64.wrap (2 * (f : Int)) + (g : Int)))).toNat < 4 ∧ 0 ≤ bits .xor .i64 (k : Int) (IntKind.i64.wrap (IntKind.i64.wrap (2 * (f : Int)) + (g : Int))) := by decide +kernel
  obtain ⟨f, rfl⟩ : ∃ n : Nat, f = n := ⟨f.toNat, by omega⟩
  obtain ⟨g, rfl⟩ : ∃ n : Nat, g = n := ⟨g.toNat, by omega⟩
  have h := this k hk f (by omega) g (by omega)
  exact ⟨_, (Int.toNat_of_nonneg h.2).symm, h.1⟩

theorem l2Flip_g (nx ny : Nat) (hx : nx ≤ 3) (hy : ny ≤ 3) (z : Int) (hz : InR z) (m : List (List Int)) (hm : m.length = nx * ny) (h4 : R4 m) (fl : List Int) (hl : fl.length = nx + ny) (h01 : ∀ v, v ∈ fl → 0 ≤ v ∧ v ≤ 1) :
    FSpec Tryz.prog 96 [.ag [.c (.int .i64 (nx)), .c (.int .i64 (ny)), .c (.int .i64 (z)), .t (.rows m)], .t (.ints .i64 fl)] (boxN nx ny (nx * ny)) := by
  have hn : nx * ny ≤ 3 * 3 := Nat.mul_le_mul hx hy
  refine fspec tyOk mx Tryz.func96 rfl (by kernel_rfl) rfl ?_
  conv => whnf
  refine aloopI tyOk mx (fun p : Nat × List (List Int) => (⟨68, [(1, .t (.ints .i64 fl)), (2, .ptr 0 0), (4, .ptr 1 0), (5, .ptr 3 0), (6, .c (.int .i64 (p.1)))], [(0, .cells 26 [.c (.int .i64 (nx)), .c (.int .i64 (ny)), .c (.int .i64 (z)), .t (.rows m)]), (1, .cells 26 [.c (.int .i64 (0)), .c (.int .i64 (0)), .c (.int .i64 (0)), .c (.slice none 0 0)]), (2, .rows 38 3 true p.2), (3, .cells 26 [.c (.int .i64 (nx)), .c (.int .i64 (ny)), .c (.int .i64 (z)), .own 2])], 4⟩ : St)) (fun p => p.1 ≤ nx ∧ p.2.length = p.1 * ny ∧ R4 p.2) (fun p => nx - p.1) (0, []) ⟨by simp, by simp, R4.nil⟩ none (by refine ⟨rfl, rfl, ?_, ?_⟩ <;> ((repeat' (first | exact trivial | exact rfl | refine And.intro ?_ ?_)) <;> (try ((conv => whnf); first | refine vint ?_ | refine vboo ?_ | refine rint ?_ | refine rrow ?_ | skip)) <;> (try first | omega | (simp; done) | ((repeat rw [flts_closed _ (by assumption)]); exact vws_closed _ (by assumption))))) (fun p hp => ?_)
  obtain ⟨x, o⟩ := p
  obtain ⟨p1, p2, p3⟩ := hp
  simp only at p1 p2 p3
  dsimp only
  refine ⟨fun h => ?_, fun h => ?_⟩
  · have h : x < nx := by have := ltT h; omega
    have hix : x * ny + ny ≤ nx * ny := by have := Nat.mul_le_mul_right ny h; rw [Nat.succ_mul] at this; exact this
    conv => whnf
    refine aloopI tyOk mx (fun q : Nat × List (List Int) => (⟨68, [(1, .t (.ints .i64 fl)), (2, .ptr 0 0), (4, .ptr 1 0), (5, .ptr 3 0), (6, .c (.int .i64 (x))), (7, .c (.int .i64 (q.1)))], [(0, .cells 26 [.c (.int .i64 (nx)), .c (.int .i64 (ny)), .c (.int .i64 (z)), .t (.rows m)]), (1, .cells 26 [.c (.int .i64 (0)), .c (.int .i64 (0)), .c (.int .i64 (0)), .c (.slice none 0 0)]), (2, .rows 38 3 true q.2), (3, .cells 26 [.c (.int .i64 (nx)), .c (.int .i64 (ny)), .c (.int .i64 (z)), .own 2])], 4⟩ : St)) (fun q => q.1 ≤ ny ∧ q.2.length = x * ny + q.1 ∧ R4 q.2) (fun q => ny - q.1) (0, o) ⟨by simp, by simpa using p2, p3⟩ none (by refine ⟨rfl, rfl, ?_, ?_⟩ <;> ((repeat' (first | exact trivial | exact rfl | refine And.intro ?_ ?_)) <;> (try ((conv => whnf); first | refine vint ?_ | refine vboo ?_ | refine rint ?_ | refine rrow ?_ | skip)) <;> (try first | omega | (simp; done) | ((repeat rw [flts_closed _ (by assumption)]); exact vws_closed _ (by assumption))))) (fun q hq => ?_)
    obtain ⟨y, o⟩ := q
    obtain ⟨q1, q2, q3⟩ := hq
    simp only at q1 q2 q3
    dsimp only
    refine ⟨fun h5 => ?_, fun h5 => ?_⟩
    · have h5 : y < ny := by have := ltT h5; omega
      have hr4 := h4 _ (getD_mem (d := []) (k := x * ny + y) (by omega))
      refine ADraw.mid (⟨68, [(1, .t (.ints .i64 fl)), (2, .ptr 0 0), (4, .ptr 1 0), (5, .ptr 3 0), (6, .c (.int .i64 (x))), (7, .c (.int .i64 (y))), (8, .t (.ints .i64 (m.getD (x * ny + y) []))), (9, .own 4)], [(0, .cells 26 [.c (.int .i64 (nx)), .c (.int .i64 (ny)), .c (.int .i64 (z)), .t (.rows m)]), (1, .cells 26 [.c (.int .i64 (0)), .c (.int .i64 (0)), .c (.int .i64 (0)), .c (.slice none 0 0)]), (2, .rows 38 3 true o), (3, .cells 26 [.c (.int .i64 (nx)), .c (.int .i64 (ny)), .c (.int .i64 (z)), .own 2]), (4, .ints 3 .i64 (List.replicate 4 0))], 5⟩ : St) (ADraw.plan tyOk mx (.q 0 (.q 1 (.q 2 (.alt 3 (.q 5 (.last 4 (.q 6 (.done)))) (.last 4 (.last 3 (.q 5 (.q 6 (.done)))))))) : Plan) (by kernel_rfl) ?_) ?_
      · conv => whnf
        repeat' (first | (refine And.intro ?_ ?_ <;> (conv => whnf)) | (refine ACall.useR (l2Row_spec nx ny x y z m (by omega) (by omega)) ?_; conv => whnf) | (refine ⟨4, rfl, rfl, by simp [room], ?_⟩; conv => whnf))
        all_goals
          refine ⟨[(0, .row 0), (1, .row 1), (2, .row 2), (3, .row 3), (4, .row 4)], ?_⟩
          (refine ⟨rfl, rfl, ?_, ?_⟩ <;> ((repeat' (first | exact trivial | exact rfl | refine And.intro ?_ ?_)) <;> (try ((conv => whnf); first | refine vint ?_ | refine vboo ?_ | refine rint ?_ | refine rrow ?_ | skip)) <;> (try first | omega | (simp; done) | ((repeat rw [flts_closed _ (by assumption)]); exact vws_closed _ (by assumption)))))
      · conv => whnf
        refine aloopI tyOk mx (fun t : Nat × List Int => (⟨68, [(1, .t (.ints .i64 fl)), (2, .ptr 0 0), (4, .ptr 1 0), (5, .ptr 3 0), (6, .c (.int .i64 (x))), (7, .c (.int .i64 (y))), (8, .t (.ints .i64 (m.getD (x * ny + y) []))), (9, .own 4), (10, .c (.int .i64 (t.1)))], [(0, .cells 26 [.c (.int .i64 (nx)), .c (.int .i64 (ny)), .c (.int .i64 (z)), .t (.rows m)]), (1, .cells 26 [.c (.int .i64 (0)), .c (.int .i64 (0)), .c (.int .i64 (0)), .c (.slice none 0 0)]), (2, .rows 38 3 true o), (3, .cells 26 [.c (.int .i64 (nx)), .c (.int .i64 (ny)), .c (.int .i64 (z)), .own 2]), (4, .ints 3 .i64 t.2)], 5⟩ : St)) (fun t => t.1 ≤ 4 ∧ (t.2.length = 4 ∧ ∀ v, v ∈ t.2 → InR v)) (fun t => 4 - t.1) (0, List.replicate 4 0) ⟨by simp, rep4⟩ none (by refine ⟨rfl, rfl, ?_, ?_⟩ <;> ((repeat' (first | exact trivial | exact rfl | refine And.intro ?_ ?_)) <;> (try ((conv => whnf); first | refine vint ?_ | refine vboo ?_ | refine rint ?_ | refine rrow ?_ | skip)) <;> (try first | omega | (simp; done) | ((repeat rw [flts_closed _ (by assumption)]); exact vws_closed _ (by assumption))))) (fun t ht => ?_)
        obtain ⟨k, to⟩ := t
        obtain ⟨t1, t2⟩ := ht
        simp only at t1 t2
        dsimp only
        refine ⟨fun h6 => ?_, fun h6 => ?_⟩
        · have h6 : k < 4 := by have := of_decide_eq_true h6; omega
          obtain ⟨q, eq, hq⟩ := xorF h6 (h01 _ (getD_mem (d := 0) (show x < fl.length by omega))) (h01 _ (getD_mem (d := 0) (show nx + y < fl.length by omega)))
          refine ADraw.plan tyOk mx (.q 0 (.q 1 (.q 2 (.q 3 (.q 4 (.q 5 (.q 6 (.q 7 (.q 8 (.q 9 (.q 10 (.q 11 (.q 12 (.q 13 (.q 14 (.q 15 (.q 16 (.q 17 (.q 18 (.q 19 (.q 20 (.last 21 (.done)))))))))))))))))))))) : Plan) (by kernel_rfl) ?_
          conv => whnf
          refine ⟨x, rfl, (show x < fl.length by omega), ?_⟩
          conv => whnf
          refine ⟨nx + y, by rw [show (nx : Int) + (y : Int) = ((nx + y : Nat) : Int) by omega]; exact w64 (by omega) (by omega), (show nx + y < fl.length by omega), ?_⟩
          conv => whnf
          refine ⟨k, rfl, by omega, ?_⟩
          conv => whnf
          refine ⟨q, eq, by omega, ?_⟩
          conv => whnf
          rw [nat_wrap (by omega)]
          exact ⟨(k + 1, to.set q _), none, (by refine ⟨rfl, rfl, ?_, ?_⟩ <;> ((repeat' (first | exact trivial | exact rfl | refine And.intro ?_ ?_)) <;> (try ((conv => whnf); first | refine vint ?_ | refine vboo ?_ | refine rint ?_ | refine rrow ?_ | skip)) <;> (try first | omega | (simp; done) | ((repeat rw [flts_closed _ (by assumption)]); exact vws_closed _ (by assumption))))), ⟨by simp only; omega, set4 t2 _ (getI hr4.2 _)⟩, by simp only; omega⟩
        · have h6 : ¬ k < 4 := by have := of_decide_eq_false h6; omega
          conv => whnf
          refine ⟨by simp [room]; omega, ?_⟩
          conv => whnf
          rw [nat_wrap (by omega)]
          exact ⟨(y + 1, o ++ [to]), none, (by refine ⟨rfl, rfl, ?_, ?_⟩ <;> ((repeat' (first | exact trivial | exact rfl | refine And.intro ?_ ?_)) <;> (try ((conv => whnf); first | refine vint ?_ | refine vboo ?_ | refine rint ?_ | refine rrow ?_ | skip)) <;> (try first | omega | (simp; done) | ((repeat rw [flts_closed _ (by assumption)]); exact vws_closed _ (by assumption))))), ⟨by simp only; omega, by simp only [List.length_append, List.length_singleton]; omega, R4.app q3 t2⟩, by simp only; omega⟩
    · have h5 : ¬ y < ny := by have := ltF h5; omega
      obtain rfl : y = ny := by omega
      conv => whnf
      rw [nat_wrap (by omega)]
      exact ⟨(x + 1, o), none, (by refine ⟨rfl, rfl, ?_, ?_⟩ <;> ((repeat' (first | exact trivial | exact rfl | refine And.intro ?_ ?_)) <;> (try ((conv => whnf); first | refine vint ?_ | refine vboo ?_ | refine rint ?_ | refine rrow ?_ | skip)) <;> (try first | omega | (simp; done) | ((repeat rw [flts_closed _ (by assumption)]); exact vws_closed _ (by assumption))))), ⟨by simp only; omega, by simp only [Nat.succ_mul]; omega, q3⟩, by simp only; omega⟩
  · have h : ¬ x < nx := by have := ltF h; omega
    obtain rfl : x = nx := by omega
    conv => whnf
    exact ⟨z, o, hz, p2, p3, rfl, rfl⟩

/-- noise, or no box -/
def noiseP (nx ny : Nat) : AVal → List (Nat × ARow) → Prop := fun v h =>
  (∃ (m : List (List Int)), m.length = nx * ny ∧ R4 m ∧ v = .tu [.ag [.c (.int .i64 nx), .c (.int .i64 ny), .c (.int .i64 4), .own 0], .c (.bool true)] ∧ h = [(0, .rows 38 3 true m)]) ∨
  (v = .tu [.ag [.c (.int .i64 0), .c (.int .i64 0), .c (.int .i64 0), .c (.slice none 0 0)], .c (.bool false)] ∧ h = [])

theorem NoiseBox_g (nx ny : Nat) (hs : szOk nx ny = true) (hx : nx ≤ 3) (hy : ny ≤ 3) : FSpec Tryz.prog 98 [.c (.int .i64 (nx)), .c (.int .i64 (ny)), .c (.int .i64 (1))] (noiseP nx ny) := by
  have hn : nx * ny ≤ 3 * 3 := Nat.mul_le_mul hx hy
  have eN : IntKind.i64.wrap ((nx : Int) * (ny : Int)) = ((nx * ny : Nat) : Int) := by rw [← Int.natCast_mul]; exact w64 (by omega) (by omega)
  refine fspec tyOk mx Tryz.func98 rfl (by kernel_rfl) rfl ?_
  conv => whnf
  refine ACall.use (l2Sizes_spec _ _) ?_
  rw [hs]
  conv => whnf
  (repeat (conv => whnf); (first | refine ⟨fun h => absurd h (by decide), fun _ => ?_⟩ | refine ⟨fun _ => ?_, fun h => absurd h (by decide)⟩)); conv => whnf
  refine ACall.use (l1In_spec _ _ _) ?_
  (repeat (conv => whnf); (first | refine ⟨fun h => absurd h (by decide), fun _ => ?_⟩ | refine ⟨fun _ => ?_, fun h => absurd h (by decide)⟩)); conv => whnf
  refine aloopI tyOk mx (fun i : List (List Int) => (⟨47, [(0, .c (.int .i64 (nx))), (1, .c (.int .i64 (ny))), (2, .c (.int .i64 (1))), (6, .ptr 0 0), (8, .ptr 2 0), (9, .c (.int .i64 (i.length)))], [(0, .cells 26 [.c (.int .i64 (0)), .c (.int .i64 (0)), .c (.int .i64 (0)), .c (.slice none 0 0)]), (1, .rows 38 3 true i), (2, .cells 26 [.c (.int .i64 (nx)), .c (.int .i64 (ny)), .c (.int .i64 (4)), .own 1])], 3⟩ : St)) (fun i => i.length ≤ nx * ny ∧ R4 i) (fun i => nx * ny - i.length) [] ⟨by simp, R4.nil⟩ none (by refine ⟨rfl, rfl, ?_, ?_⟩ <;> ((repeat' (first | exact trivial | exact rfl | refine And.intro ?_ ?_)) <;> (try ((conv => whnf); first | refine vint ?_ | refine vboo ?_ | refine rint ?_ | refine rrow ?_ | skip)) <;> (try first | omega | (simp; done) | ((repeat rw [flts_closed _ (by assumption)]); exact vws_closed _ (by assumption))))) (fun i hi => ?_)
  obtain ⟨i1, i2⟩ := hi
  conv => whnf
  rw [eN]
  refine ⟨fun h => ?_, fun h => ?_⟩
  · have h : i.length < nx * ny := by have := ltT h; omega
    conv => whnf
    refine ⟨by simp [room]; omega, ?_⟩
    conv => whnf
    rw [nat_wrap (by omega)]
    exact ⟨i ++ [_], none, (by refine ⟨rfl, rfl, ?_, ?_⟩ <;> ((repeat' (first | exact trivial | exact rfl | refine And.intro ?_ ?_)) <;> (try ((conv => whnf); first | refine vint ?_ | refine vboo ?_ | refine rint ?_ | refine rrow ?_ | skip)) <;> (try first | omega | (simp; done) | ((repeat rw [flts_closed _ (by assumption)]); exact vws_closed _ (by assumption))))), ⟨by simp only [List.length_append, List.length_singleton]; omega, R4.app i2 (set4 (set4 (set4 (set4 rep4 _ (by unfold InR; omega)) _ (by unfold InR; omega)) _ (by unfold InR; omega)) _ (by unfold InR; omega))⟩, by simp only [List.length_append, List.length_singleton]; omega⟩
  · have h : ¬ i.length < nx * ny := by have := ltF h; omega
    have hm : i.length = nx * ny := by omega
    have hsz : SzM i := by
      have k1 := tot_le_mul (m := i) (n := 4) (fun r hr => by have := (i2 r hr).1; omega)
      have : i.length * 4 ≤ 9 * 4 := Nat.mul_le_mul_right 4 (by omega)
      unfold SzM; omega
    conv => whnf
    refine ACallS.inline tyOk mx Tryz.func110 rfl (by kernel_rfl) rfl ?_
    conv => whnf
    refine ACall.use (l2Box_spec nx ny 4 i hsz) ?_
    conv => whnf
    refine ⟨fun h4 => ?_, fun h4 => ?_⟩
    · conv => whnf
      refine ⟨rfl, ?_⟩
      conv => whnf
      exact .inr ⟨rfl, rfl⟩
    · conv => whnf
      refine ⟨rfl, ?_⟩
      conv => whnf
      exact .inl ⟨i, hm, i2, rfl, rfl⟩
end Go.Proofs.YtkjdplglenjijaaGreat
