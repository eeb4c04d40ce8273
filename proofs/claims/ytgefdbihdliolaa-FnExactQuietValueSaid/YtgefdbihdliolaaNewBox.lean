/- Boxes that are told by a function. -/
import Derived.Test.YtgefdbihdliolaaPlain
namespace Go.Aw
theorem ACall.use4 {P : Program} {st : St} {f : FuncId} {a b c d v : Value} {caps : List AVal} {K : AVal → St → Prop} (hcl : ∀ g hp, clos g hp caps = some caps) (ho : hasOwns caps = false)
    (hs : FSpec P f (.c a :: .c b :: .c c :: .c d :: caps) (ex (.c v) [])) (hk : K (.c v) (st.add [])) : ACallS P st f (.c a :: .c b :: .c c :: .c d :: caps) K := by
  refine ACallS.useK hs (fun x h e => ?_) ?_
  · obtain ⟨rfl, rfl⟩ := e
    have : hasOwns (.c a :: .c b :: .c c :: .c d :: caps) = false := by simp [hasOwns, hasOwn, ho]
    rw [this]
    exact hk
  · simp [closeArgs, clos, clo1, hcl]

/-- the rows of a box, by a function of questions and answers -/
def boxRow (num : Nat → Nat → Nat → Nat → Int) (i k : Nat) : List Int := (List.range 4).map fun p => num i k (p / 2) (p % 2)
def boxTo (num : Nat → Nat → Nat → Nat → Int) (ny i k : Nat) : List (List Int) := (List.range i).flatMap (fun i => (List.range ny).map (boxRow num i)) ++ (List.range k).map (boxRow num i)
def boxRows (num : Nat → Nat → Nat → Nat → Int) (nx ny : Nat) : List (List Int) := (List.range nx).flatMap fun i => (List.range ny).map (boxRow num i)
theorem boxTo_row (num : Nat → Nat → Nat → Nat → Int) (ny i k : Nat) : boxTo num ny i k ++ [boxRow num i k] = boxTo num ny i (k + 1) := by
  unfold boxTo
  rw [List.append_assoc, map_range_succ]
theorem boxTo_end (num : Nat → Nat → Nat → Nat → Int) (ny i : Nat) : boxTo num ny i ny = boxTo num ny (i + 1) 0 := by
  simp [boxTo, List.range_succ]
theorem boxTo_all (num : Nat → Nat → Nat → Nat → Int) (nx ny : Nat) : boxTo num ny nx 0 = boxRows num nx ny := by
  simp [boxTo, boxRows]
theorem boxTo_len (num : Nat → Nat → Nat → Nat → Int) (ny i k : Nat) : (boxTo num ny i k).length = i * ny + k := by
  unfold boxTo
  rw [List.length_append, List.length_map, List.length_range, List.length_flatMap]
  congr 1
  induction i with
  | zero => simp
  | succ i ih => rw [List.range_succ, List.map_append, List.sum_append, ih]; simp [Nat.succ_mul]
theorem boxRows_len (num : Nat → Nat → Nat → Nat → Int) (nx ny : Nat) : (boxRows num nx ny).length = nx * ny := by
  rw [← boxTo_all, boxTo_len]; rfl
end Go.Aw
namespace Go.Proofs.Ytgefdbihdliolaa
open Go.Aw
set_option maxRecDepth 100000
theorem half_nat {p : Nat} (h : p < 4) : IntKind.i64.wrap (Int.tdiv (p : Int) 2) = ((p / 2 : Nat) : Int) := by
  have : p = 0 ∨ p = 1 ∨ p = 2 ∨ p = 3 := by omega
  rcases this with rfl | rfl | rfl | rfl <;> rfl
theorem mod_nat {p : Nat} (h : p < 4) : Int.tmod (p : Int) 2 = ((p % 2 : Nat) : Int) := by
  have : p = 0 ∨ p = 1 ∨ p = 2 ∨ p = 3 := by omega
  rcases this with rfl | rfl | rfl | rfl <;> rfl

theorem newBox_spec (nx ny : Nat) (z : Int) (g : FuncId) (caps : List AVal) (num : Nat → Nat → Nat → Nat → Int) (hx : nx ≤ 1000) (hy : ny ≤ 1000)
    (hcl : ∀ g hp, clos g hp caps = some caps) (ho : hasOwns caps = false)
    (hg : ∀ i k a b : Nat, i < nx → k < ny → a < 2 → b < 2 → FSpec Try.prog g (.c (.int .i64 (i)) :: .c (.int .i64 (k)) :: .c (.int .i64 (a)) :: .c (.int .i64 (b)) :: caps) (ex (.c (.int .i64 (num i k a b))) [])) :
    FSpec Try.prog 81 [.c (.int .i64 (nx)), .c (.int .i64 (ny)), .c (.int .i64 (z)), .clo g caps] (ex (.ag [.c (.int .i64 (nx)), .c (.int .i64 (ny)), .c (.int .i64 (z)), .own 0]) [(0, .rows 23 3 true (boxRows num nx ny))]) := by
  have hm : ∀ i, i ≤ nx → i * ny ≤ 1000000 := fun i hi => Nat.mul_le_mul (show i ≤ 1000 by omega) hy
  have hcl' := hcl (fun _ _ => none) []
  refine fspec tyOk mx Try.func81 rfl (by kernel_rfl) rfl ?_
  conv => whnf
  refine aloopI tyOk mx (fun i : Nat => (⟨51, [(1, .c (.int .i64 (ny))), (3, .clo g caps), (8, .ptr 0 0), (9, .ptr 1 0), (18, .c (.int .i64 (nx))), (19, .c (.int .i64 (i)))], [(0, .cells 42 [.c (.int .i64 (0)), .c (.int .i64 (0)), .c (.int .i64 (0)), .c (.slice none 0 0)]), (1, .cells 42 [.c (.int .i64 (nx)), .c (.int .i64 (ny)), .c (.int .i64 (z)), .own 2]), (2, .rows 23 3 true (boxTo num ny i 0))], 3⟩ : St)) (fun i => i ≤ nx) (fun i => nx - i) 0 (by omega) (some [(0, .row 0), (1, .row 1), (2, .nil)]) (by refine ⟨rfl, rfl, ?_, ?_⟩ <;> ((repeat' (first | exact trivial | exact rfl | refine And.intro ?_ ?_)) <;> (try ((conv => whnf); first | refine vint ?_ | refine vboo ?_ | refine rint ?_ | refine rrow ?_ | skip)) <;> (try first | omega | (simp; done) | ((repeat rw [flts_closed _ (by assumption)]); exact vws_closed _ (by assumption))))) (fun i hi => ?_)
  refine ⟨fun h => ?_, fun h => ?_⟩
  · have h := ltT h
    conv => whnf
    refine aloopI tyOk mx (fun k : Nat => (⟨51, [(1, .c (.int .i64 (ny))), (3, .clo g caps), (8, .ptr 0 0), (9, .ptr 1 0), (10, .c (.int .i64 (i))), (18, .c (.int .i64 (nx))), (19, .c (.int .i64 (i))), (22, .c (.int .i64 (ny))), (23, .c (.int .i64 (k)))], [(0, .cells 42 [.c (.int .i64 (0)), .c (.int .i64 (0)), .c (.int .i64 (0)), .c (.slice none 0 0)]), (1, .cells 42 [.c (.int .i64 (nx)), .c (.int .i64 (ny)), .c (.int .i64 (z)), .own 2]), (2, .rows 23 3 true (boxTo num ny i k))], 3⟩ : St)) (fun k => k ≤ ny) (fun k => ny - k) 0 (by omega) none (by refine ⟨rfl, rfl, ?_, ?_⟩ <;> ((repeat' (first | exact trivial | exact rfl | refine And.intro ?_ ?_)) <;> (try ((conv => whnf); first | refine vint ?_ | refine vboo ?_ | refine rint ?_ | refine rrow ?_ | skip)) <;> (try first | omega | (simp; done) | ((repeat rw [flts_closed _ (by assumption)]); exact vws_closed _ (by assumption))))) (fun k hk => ?_)
    have hlen := boxTo_len num ny i k
    have hm' := hm i hi
    refine ⟨fun h2 => ?_, fun h2 => ?_⟩
    · have h2 := ltT h2
      conv => whnf
      refine aloopI tyOk mx (fun p : Nat => (⟨51, [(1, .c (.int .i64 (ny))), (3, .clo g caps), (8, .ptr 0 0), (9, .ptr 1 0), (10, .c (.int .i64 (i))), (11, .c (.int .i64 (k))), (12, .own 3), (18, .c (.int .i64 (nx))), (19, .c (.int .i64 (i))), (22, .c (.int .i64 (ny))), (23, .c (.int .i64 (k))), (27, .c (.int .i64 (p)))], [(0, .cells 42 [.c (.int .i64 (0)), .c (.int .i64 (0)), .c (.int .i64 (0)), .c (.slice none 0 0)]), (1, .cells 42 [.c (.int .i64 (nx)), .c (.int .i64 (ny)), .c (.int .i64 (z)), .own 2]), (2, .rows 23 3 true (boxTo num ny i k)), (3, .ints 3 .i64 ((List.range p).map fun p => num i k (p / 2) (p % 2)))], 4⟩ : St)) (fun p => p ≤ 4) (fun p => 4 - p) 0 (by omega) none (by refine ⟨rfl, rfl, ?_, ?_⟩ <;> ((repeat' (first | exact trivial | exact rfl | refine And.intro ?_ ?_)) <;> (try ((conv => whnf); first | refine vint ?_ | refine vboo ?_ | refine rint ?_ | refine rrow ?_ | skip)) <;> (try first | omega | (simp; done) | ((repeat rw [flts_closed _ (by assumption)]); exact vws_closed _ (by assumption))))) (fun p hp => ?_)
      refine ⟨fun h3 => ?_, fun h3 => ?_⟩
      · have h3 : p < 4 := by have := of_decide_eq_true h3; omega
        conv => whnf
        refine ⟨by decide, ?_⟩
        conv => whnf
        refine ⟨by decide, ?_⟩
        rw [half_nat h3, mod_nat h3]
        conv => whnf
        refine cast (frL_eq caps).symm ?_
        refine ACall.use4 hcl ho (hg i k (p / 2) (p % 2) h h2 (by omega) (by omega)) ?_
        conv => whnf
        refine ⟨by simp [room]; omega, ?_⟩
        conv => whnf
        rw [nat_wrap (by omega)]
        refine ⟨p + 1, none, ?_, by omega, by omega⟩
        (refine ⟨rfl, rfl, ?_, ?_⟩ <;> ((repeat' (first | exact trivial | exact rfl | refine And.intro ?_ ?_)) <;> (try ((conv => whnf); first | refine vint ?_ | refine vboo ?_ | refine rint ?_ | refine rrow ?_ | skip)) <;> (try first | omega | (simp; done) | ((repeat rw [flts_closed _ (by assumption)]); exact vws_closed _ (by assumption)))))
        rw [← map_range_succ]; rfl
      · have h3 : ¬ p < 4 := by have := of_decide_eq_false h3; omega
        obtain rfl : p = 4 := by omega
        conv => whnf
        refine ⟨by simp [room]; omega, ?_⟩
        conv => whnf
        rw [nat_wrap (by omega)]
        refine ⟨k + 1, none, ?_, by omega, by omega⟩
        (refine ⟨rfl, rfl, ?_, ?_⟩ <;> ((repeat' (first | exact trivial | exact rfl | refine And.intro ?_ ?_)) <;> (try ((conv => whnf); first | refine vint ?_ | refine vboo ?_ | refine rint ?_ | refine rrow ?_ | skip)) <;> (try first | omega | (simp; done) | ((repeat rw [flts_closed _ (by assumption)]); exact vws_closed _ (by assumption)))))
        rw [← boxTo_row]; rfl
    · have h2 := ltF h2
      obtain rfl : k = ny := by omega
      conv => whnf
      rw [nat_wrap (by omega)]
      refine ⟨i + 1, none, ?_, by omega, by omega⟩
      (refine ⟨rfl, rfl, ?_, ?_⟩ <;> ((repeat' (first | exact trivial | exact rfl | refine And.intro ?_ ?_)) <;> (try ((conv => whnf); first | refine vint ?_ | refine vboo ?_ | refine rint ?_ | refine rrow ?_ | skip)) <;> (try first | omega | (simp; done) | ((repeat rw [flts_closed _ (by assumption)]); exact vws_closed _ (by assumption)))))
      exact boxTo_end num k i
  · have h := ltF h
    obtain rfl : i = nx := by omega
    conv => whnf
    exact ⟨rfl, by rw [boxTo_all]⟩
end Go.Proofs.Ytgefdbihdliolaa
