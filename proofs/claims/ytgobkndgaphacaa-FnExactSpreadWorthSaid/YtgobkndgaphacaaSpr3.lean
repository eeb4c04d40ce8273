/- Spreads: slices.Grow and slices.Concat, at slices of slices. -/
import Derived.Test.YtgobkndgaphacaaSpr2
import Derived.Shelf.Spec.SlicesGrow
namespace Go.Aw
def catTo (a b : List (List Int)) : Nat → List (List Int)
  | 0 => []
  | 1 => a
  | _ => a ++ b
theorem catTo_len (a b : List (List Int)) (i : Nat) : (catTo a b i).length ≤ a.length + b.length := by
  match i with
  | 0 => simp [catTo]
  | 1 => simp [catTo]
  | _ + 2 => simp [catTo]
end Go.Aw
namespace Go.Proofs.Ytgobkndgaphacaa
open Go.Aw
set_option maxRecDepth 100000
set_option maxHeartbeats 4000000

def growRen : Go.Shelf.Ren := ⟨fun | 4 => 45 | n => n, fun | 22 => 22 | 25 => 33 | 3 => 3 | 4 => 4 | 9 => 9 | 20 => 20 | 0 => 0 | n => n, fun | n => n⟩
theorem growLay : Go.Proofs.Lays8.n4 Try.prog growRen := {
  mixed := by kernel_rfl
  f4 := ⟨Try.f45.name, by decide, Try.func45.trans (congrArg some (by kernel_rfl))⟩
  t0 := Try.underlying0
  a0 := Try.isAgg0
  z0 := Try.sizeOf0
  v0 := Try.zeroValue0
  t3 := Try.underlying3
  a3 := Try.isAgg3
  z3 := Try.sizeOf3
  v3 := Try.zeroValue3
  t4 := Try.underlying4
  a4 := Try.isAgg4
  z4 := Try.sizeOf4
  v4 := Try.zeroValue4
  t9 := Try.underlying9
  a9 := Try.isAgg9
  z9 := Try.sizeOf9
  v9 := Try.zeroValue9
  t20 := Try.underlying20
  a20 := Try.isAgg20
  z20 := Try.sizeOf20
  v20 := Try.zeroValue20
  t22 := Try.underlying22
  a22 := Try.isAgg22
  z22 := Try.sizeOf22
  v22 := Try.zeroValue22 }

theorem grow_spec (n : Nat) (h1 : 1 ≤ n) (h2 : n ≤ 1099511627776) :
    FSpec Try.prog 45 [.c (.slice none 0 0), .c (.int .i64 (n))] (ex (.own 0) [(0, .rows 33 3 false [])]) := by
  obtain ⟨i0, z, q1, q2, q3, q4, q5⟩ := (tyOk.at (show Go.Aw.look ty 33 = some ⟨.slice 3, 1, 24, [.slice none 0 0]⟩ by kernel_rfl)).info
  refine ⟨⟨_, Try.func45, by kernel_rfl, by kernel_rfl⟩, fun w bad vs hbl hvs => ?_⟩
  match vs, hvs with
  | [u, v], ⟨⟨hu, _⟩, ⟨hv, _⟩, _⟩ =>
    subst hu hv
    refine (Any8.slices_Grow_grow growLay i0 z q1 q4 (by rw [q2]; exact Nat.one_pos) none 0 0 n [] w (Nat.le_refl _) (by omega) (by rw [q3, Nat.zero_add]; show n * 24 ≤ _; omega) (by omega) (by simp) (fun _ => rfl) (fun a h => by cases h)).mono ?_
    rintro e w' ⟨rfl, rfl⟩
    have hz1 : z.cells.size = 1 := by rw [q5]; rfl
    have hge := grownCap_ge w (0 + n) 0 33
    have hcm := grownCap_le_maxLen w (0 + n) 0 33 (by unfold maxLen; omega)
    refine ⟨_, .own 0, [(0, .rows 33 3 false [])], ⟨fun _ => .slice (some ⟨w.heap.size, 0, none⟩) 0 (grownCap w (0 + n) 0 33), fun _ => []⟩, rfl, ⟨rfl, rfl⟩, ((Go.RowKit.Below.refl _ w).drew).alloc (Nat.le_refl _) _, ⟨?_, ?_, ?_, ?_⟩, Nat.one_pos, fun r hr => ?_⟩
    · intro k r hk
      rw [look_cons] at hk
      split at hk
      · obtain rfl := Option.some.inj hk
        refine ⟨⟨rfl, .inr ⟨w.heap.size, _, _, rfl, Nat.le_refl _, Go.heap_alloc_new w.drew _, Nat.zero_le _, hcm, ?_, by simp⟩⟩, trivial⟩
        simp only [Array.size_append, List.size_toArray, List.length_nil, size_zeroCells, hz1]
        show _ = grownCap w (0 + n) 0 33 * 1
        have : growRen.t 25 = 33 := rfl
        rw [this]
        omega
      · cases hk
    · intro k r hk
      rw [look_cons] at hk
      split at hk
      · obtain rfl := Option.some.inj hk
        simp [bsOf, ARow.kind, blk]
      · cases hk
    · intro k r k' r' hk hk' hne
      rw [look_cons] at hk hk'
      split at hk
      · split at hk'
        · omega
        · cases hk'
      · cases hk
    · intro k r hk
      rw [look_cons] at hk
      split at hk
      · simp; omega
      · cases hk
    · rw [look_cons, if_pos rfl] at hr
      obtain rfl := Option.some.inj hr
      exact ⟨by simp [ARow.kind], rfl⟩

theorem concat_spec (a b : List (List Int)) (h1 : 1 ≤ a.length) (ha : a.length ≤ 1048576) (hb : b.length ≤ 1048576) :
    FSpec Try.prog 41 [.t (.recs 0 [([], a), ([], b)])] (ex (.own 0) [(0, .rows 33 3 false (a ++ b))]) := by
  have hl2 : ([([], a), ([], b)] : List (List Int × List (List Int))).length = 2 := rfl
  refine fspec tyOk mx Try.func41 rfl (by kernel_rfl) rfl ?_
  conv => whnf
  refine aloopI tyOk mx (fun i : Nat => (⟨36, [(0, .t (.recs 0 [([], a), ([], b)])), (3, .c (.int .i64 ((catTo a b i).length))), (9, .t (.recs 0 [([], a), ([], b)])), (10, .c (.int .i64 (2))), (11, .c (.int .i64 (i)))], [], 0⟩ : St)) (fun i => i ≤ 2) (fun i => 2 - i) 0 (Nat.zero_le _) none (by refine ⟨rfl, rfl, ?_, ?_⟩ <;> ((repeat' (first | exact trivial | exact rfl | refine And.intro ?_ ?_)) <;> (try ((conv => whnf); first | refine vint ?_ | refine vboo ?_ | refine rint ?_ | refine rrow ?_ | skip)) <;> (try first | omega | (simp; done) | ((repeat rw [flts_closed _ (by assumption)]); exact vws_closed _ (by assumption))))) (fun i hi => ?_)
  refine ⟨fun h => ?_, fun h => ?_⟩
  · have h : i < 2 := by have := of_decide_eq_true h; omega
    conv => whnf
    refine ⟨i, rfl, h, ?_⟩
    conv => whnf
    have hc1 := catTo_len a b i
    have hc2 := catTo_len a b (i + 1)
    have e : IntKind.i64.wrap (((catTo a b i).length : Int) + ((([([], a), ([], b)] : List (List Int × List (List Int))).getD i ([], [])).2.length : Int)) = ((catTo a b (i + 1)).length : Int) := by
      have h2 : i = 0 ∨ i = 1 := by omega
      rcases h2 with rfl | rfl
      · rw [w64 (by simp [catTo]) (by simp [catTo]; omega)]; simp [catTo]
      · rw [w64 (by simp [catTo]; omega) (by simp [catTo]; omega)]; simp [catTo]
    rw [e]
    refine ⟨fun h5 => ?_, fun h5 => ?_⟩
    · have := of_decide_eq_true h5
      omega
    · conv => whnf
      rw [nat_wrap (by omega)]
      exact ⟨i + 1, none, (by refine ⟨rfl, rfl, ?_, ?_⟩ <;> ((repeat' (first | exact trivial | exact rfl | refine And.intro ?_ ?_)) <;> (try ((conv => whnf); first | refine vint ?_ | refine vboo ?_ | refine rint ?_ | refine rrow ?_ | skip)) <;> (try first | omega | (simp; done) | ((repeat rw [flts_closed _ (by assumption)]); exact vws_closed _ (by assumption))))), by omega, by omega⟩
  · have h : ¬ i < 2 := by have := of_decide_eq_false h; omega
    obtain rfl : i = 2 := by omega
    have hl : (catTo a b 2).length = a.length + b.length := by simp [catTo]
    conv => whnf
    refine ACall.use (grow_spec (catTo a b 2).length (by omega) (by omega)) ?_
    conv => whnf
    refine aloopI tyOk mx (fun i : Nat => (⟨36, [(6, .own 0), (25, .t (.recs 0 [([], a), ([], b)])), (26, .c (.int .i64 (2))), (27, .c (.int .i64 (i)))], [(0, .rows 33 3 false (catTo a b i))], 1⟩ : St)) (fun i => i ≤ 2) (fun i => 2 - i) 0 (Nat.zero_le _) none (by refine ⟨rfl, rfl, ?_, ?_⟩ <;> ((repeat' (first | exact trivial | exact rfl | refine And.intro ?_ ?_)) <;> (try ((conv => whnf); first | refine vint ?_ | refine vboo ?_ | refine rint ?_ | refine rrow ?_ | skip)) <;> (try first | omega | (simp; done) | ((repeat rw [flts_closed _ (by assumption)]); exact vws_closed _ (by assumption))))) (fun i hi => ?_)
    refine ⟨fun h => ?_, fun h => ?_⟩
    · have h : i < 2 := by have := of_decide_eq_true h; omega
      have hc1 := catTo_len a b i
      have e : catTo a b i ++ (([([], a), ([], b)] : List (List Int × List (List Int))).getD i ([], [])).2 = catTo a b (i + 1) := by
        have h2 : i = 0 ∨ i = 1 := by omega
        rcases h2 with rfl | rfl <;> simp [catTo]
      have e2 : (([([], a), ([], b)] : List (List Int × List (List Int))).getD i ([], [])).2.length ≤ 1048576 := by
        have h2 : i = 0 ∨ i = 1 := by omega
        rcases h2 with rfl | rfl
        · exact ha
        · exact hb
      conv => whnf
      refine ⟨i, rfl, h, ?_⟩
      conv => whnf
      refine ⟨by simp only [room]; omega, ?_⟩
      conv => whnf
      rw [nat_wrap (by omega)]
      refine ⟨i + 1, none, ?_, by omega, by omega⟩
      (refine ⟨rfl, rfl, ?_, ?_⟩ <;> ((repeat' (first | exact trivial | exact rfl | refine And.intro ?_ ?_)) <;> (try ((conv => whnf); first | refine vint ?_ | refine vboo ?_ | refine rint ?_ | refine rrow ?_ | skip)) <;> (try first | omega | (simp; done) | ((repeat rw [flts_closed _ (by assumption)]); exact vws_closed _ (by assumption)))))
    · have h : ¬ i < 2 := by have := of_decide_eq_false h; omega
      obtain rfl : i = 2 := by omega
      conv => whnf
      exact ⟨rfl, rfl⟩
end Go.Proofs.Ytgobkndgaphacaa
