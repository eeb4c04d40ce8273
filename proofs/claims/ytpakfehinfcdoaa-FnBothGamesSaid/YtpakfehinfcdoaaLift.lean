/- From a contract of the engine to a law's row. -/
import Derived.Test.YtpakfehinfcdoaaRows
import Derived.Test.YtpakfehinfcdoaaChecked
import Derived.ProofKit
import Derived.Deep.Matrix
import Derived.Test.YtpakfehinfcdoaaBase
namespace Go.Aw
open Go.ChangeShapes Go.WideShapes Go.ChangeAt Go.RowKit Go.Deep

section
variable {H : Type} {enc : TypeId × Value → H} {P : Program}

theorem carryAll (hl : laidOutB P = true) {W W' : World} (hb : Below W.heap.size W W') : ∀ {ts : List TypeId} {vs : List Value} {ds : List (DataW H)} {ps : List MemPlace},
    (ts.all fun t => P.readableRec t && decide (t < P.types.size)) = true → (∀ x ∈ ps, x.block < W.heap.size) →
    DataW.TrodAll enc P W 0 (fun _ => true) true ts vs ds ps → DataW.TrodAll enc P W' 0 (fun b => decide (b < W.heap.size)) true ts vs ds ps
  | [], [], [], _, _, _, h => h
  | t :: ts, v :: vs, d :: ds, ps, hr, hlt, h => by
    obtain ⟨p, q, h1, h2, rfl⟩ := h
    simp only [List.all_cons, Bool.and_eq_true, decide_eq_true_eq] at hr
    exact ⟨p, q, Below.trod hl hr.1.1 hr.1.2 h1 hb (fun x hx => hlt x (List.mem_append.2 (.inl hx))), carryAll hl hb hr.2 (fun x hx => hlt x (List.mem_append.2 (.inr hx))) h2, rfl⟩
  | [], [], _ :: _, _, _, _, h => h.elim
  | [], _ :: _, _, _, _, _, h => h.elim
  | _ :: _, [], _, _, _, _, h => h.elim
  | _ :: _, _ :: _, [], _, _, _, h => h.elim

theorem law_post (hl : laidOutB P = true) {f : Func} {s : ChangeSpec} {W W' : World} {args : Array Value} {ds gs : List (DataW H)} {before : List MemPlace} {tb : TypeId} (hs : s.vars = [])
    (hW : DataW.Whole enc P f.params.toList s.vars false W args.toList ds gs before) (hrt : f.resultTypes = #[tb]) (htb : P.underlying tb = some .bool)
    (hr : (f.params.toList.all fun t => P.readableRec t && decide (t < P.types.size)) = true) (h1 : (s.fn H (ds ++ [])).results = [.lit (.bool true)]) (h2 : (s.fn H (ds ++ [])).args = ds) (h3 : (s.fn H (ds ++ [])).vars = [])
    (hb : Below W.heap.size W W') : s.post enc P f false true false false W args (.bool true) W' := by
  have hW' := hW
  obtain ⟨p, q, hA, hV, hbe, hfz, _⟩ := hW
  rw [hs] at hV
  match gs, hV with
  | [], hV =>
    have hq : q = [] := hV
    subst hq
    rw [List.append_nil] at hbe
    subst hbe
    have hlt : ∀ x ∈ before, x.block < W.heap.size := fun x hx => by simpa using hW'.lt x hx
    refine ⟨ds, [], before, [], before, [], hW', ?_, ?_, ?_, hb.frame _, fun h => by cases h⟩
    · rw [h1, hrt]
      exact trodAll_mk1 (shut_bool htb true)
    · rw [h2]
      exact carryAll hl hb hr hlt hA
    · rw [h3, hs]; rfl

theorem cell_plain {w : World} {a : Addr} {v : Value} (h : w.cell? a = some v) : a = ⟨a.block, a.off, none⟩ := by
  obtain ⟨b, o, s⟩ := a
  have := World.cell?_spot h
  simp only at this
  subst this; rfl

/-- a slice of integers that came in -/
theorem rep_ints {t q : TypeId} {k : IntKind} (ht : P.underlying t = some (.slice q)) (hq : P.underlying q = some (.int k)) (cq : P.cellsOf q = 1) {W : World} {a : Option Addr} {n c : Nat} {d : DataW H} {ps : List MemPlace}
    (h : DataW.Trod enc P W 0 (fun _ => true) true t (.slice a n c) d ps) (bad : Nat → Prop) (hbad : ∀ b, b < W.heap.size → ¬ bad b) :
    ∃ l : List Int, SInts W bad k l (.slice a n c) ∧ l.length ≤ 9223372036854775807 ∧ ∀ x ∈ l, (Lit.int k x).wf = true := by
  obtain ⟨fuel, hf⟩ := h
  rcases open_ints ht hq cq hf with ⟨hcs, -⟩ | ⟨a', len, cap, zs, hcs, _, hl, hm, hz, _, hcell, hwz⟩
  · simp [Value.cells] at hcs
    obtain ⟨rfl, rfl, rfl⟩ := hcs
    exact ⟨[], ⟨none, 0, rfl, Nat.le_refl _, Nat.zero_le _, fun i x hi => by simp at hi⟩, by simp, by simp⟩
  · simp [Value.cells] at hcs
    obtain ⟨rfl, rfl, rfl⟩ := hcs
    simp only [if_true] at hz
    have hlen : (zs.take n).length = n := by rw [List.length_take]; omega
    refine ⟨zs.take n, ⟨some a', c, by rw [hlen], by rw [hlen]; exact hl, hm, fun i x hi => ?_⟩, ?_, fun x hx => hwz x (List.mem_of_mem_take hx)⟩
    · have hin : i < n := by have := (List.getElem?_eq_some_iff.1 hi).1; omega
      have h0 := hcell i (by omega)
      have hlt := World.block_lt_of_cell? W _ (hcell 0 (by omega))
      have hpl := cell_plain (hcell 0 (by omega))
      simp only [Addr.add, if_true] at hpl hlt
      refine ⟨a'.block, a'.off, congrArg some hpl, hbad _ hlt, ?_⟩
      have hx : zs.getD i 0 = x := by
        rw [List.getElem?_take_of_lt hin] at hi
        rw [List.getD_eq_getElem?_getD, hi]; rfl
      rw [hx, hpl, add_plain] at h0
      exact h0
    · rw [hlen]; unfold maxLen at hm; omega

/-- a slice of slices of integers that came in -/
theorem rep_rows {t e q : TypeId} (ht : P.underlying t = some (.slice e)) (he : P.underlying e = some (.slice q)) (hq : P.underlying q = some (.int .i64)) (ce : P.cellsOf e = 1) (cq : P.cellsOf q = 1) {W : World} {a : Option Addr} {n c : Nat} {d : DataW H} {ps : List MemPlace}
    (h : DataW.Trod enc P W 0 (fun _ => true) true t (.slice a n c) d ps) (bad : Nat → Prop) (hbad : ∀ b, b < W.heap.size → ¬ bad b) :
    ∃ m : List (List Int), SRows W bad m (.slice a n c) ∧ m.length ≤ 9223372036854775807 ∧ (∀ l ∈ m, l.length ≤ 9223372036854775807) ∧ ∀ l ∈ m, ∀ x ∈ l, (Lit.int .i64 x).wf = true := by
  obtain ⟨fuel, hf⟩ := h
  rcases open_int_rows ht he hq ce cq hf with ⟨hcs, -⟩ | ⟨a', len, cap, A, L, C, Z, hcs, _, hl, hm, _, hrow⟩
  · simp [Value.cells] at hcs
    obtain ⟨rfl, rfl, rfl⟩ := hcs
    exact ⟨[], ⟨none, 0, rfl, Nat.le_refl _, Nat.zero_le _, fun i x hi => by simp at hi⟩, by simp, by simp, by simp⟩
  · simp [Value.cells] at hcs
    obtain ⟨rfl, rfl, rfl⟩ := hcs
    have hlen : ((List.range n).map fun r => (Z r).take (L r)).length = n := by simp
    have hlr : ∀ r, r < c → ((Z r).take (L r)).length = L r := fun r hr => by
      obtain ⟨_, h1, _, h3, _⟩ := hrow r hr
      rw [List.length_take]; omega
    refine ⟨(List.range n).map fun r => (Z r).take (L r), ⟨some a', c, by rw [hlen], by rw [hlen]; exact hl, hm, fun i l hi => ?_⟩, ?_, ?_, ?_⟩
    · have hin : i < n := by have := (List.getElem?_eq_some_iff.1 hi).1; omega
      have hil : (Z i).take (L i) = l := by simpa [List.getElem?_map, List.getElem?_range hin] using hi
      obtain ⟨h0, h1, h2, h3, h4, h5, h6⟩ := hrow i (by omega)
      have hlt := World.block_lt_of_cell? W _ (hrow 0 (by omega)).1
      have hpl := cell_plain (hrow 0 (by omega)).1
      simp only [Addr.add, if_true] at hpl hlt
      refine ⟨a'.block, a'.off, .slice (A i) (L i) (C i), congrArg some hpl, hbad _ hlt, ?_, ?_⟩
      · rw [hpl, add_plain] at h0
        exact h0
      · subst hil
        have hli := hlr i (by omega)
        refine ⟨A i, C i, by rw [hli], by rw [hli]; exact h1, h2, fun j x hj => ?_⟩
        have hjl : j < L i := by have := (List.getElem?_eq_some_iff.1 hj).1; omega
        cases hA : A i with
        | none => have := h5 hA; omega
        | some b =>
          obtain ⟨_, h7⟩ := h6 b hA
          have hlt2 := World.block_lt_of_cell? W _ (h7 0 (by omega))
          have hpl2 := cell_plain (h7 0 (by omega))
          simp only [Addr.add, if_true] at hpl2 hlt2
          have h8 := h7 j (by omega)
          refine ⟨b.block, b.off, congrArg some hpl2, hbad _ hlt2, ?_⟩
          have hx : (Z i).getD j 0 = x := by
            rw [List.getElem?_take_of_lt hjl] at hj
            rw [List.getD_eq_getElem?_getD, hj]; rfl
          rw [hx, hpl2, add_plain] at h8
          exact h8
    · rw [hlen]; unfold maxLen at hm; omega
    · intro l hl'
      obtain ⟨r, hr, rfl⟩ := List.mem_map.1 hl'
      have hrn := List.mem_range.1 hr
      rw [hlr r (by omega)]
      obtain ⟨_, h1, h2, _⟩ := hrow r (by omega)
      unfold maxLen at h2; omega
    · intro l hl' x hx
      obtain ⟨r, hr, rfl⟩ := List.mem_map.1 hl'
      have hrn := List.mem_range.1 hr
      exact (hrow r (by omega)).2.2.2.2.1 x (List.mem_of_mem_take hx)
end

/-- the contract of a law, run -/
theorem FSpec.law {P : Program} {f : FuncId} {args : List AVal} (h : FSpec P f args (ex (.c (.bool true)) [])) {W : World} {vs : List Value} (hv : VReps W (fun _ => False) [] 0 η0 args vs) :
    Calls P f vs.toArray W fun e W' => e = .returned (.bool true) ∧ Below W.heap.size W W' := by
  refine (h.2 W (fun _ => False) vs (fun _ h => h.elim) hv).mono ?_
  rintro e W' ⟨v, x, hr, η, rfl, ⟨rfl, rfl⟩, hb, _, hx⟩
  exact ⟨by rw [hx.1], hb⟩
end Go.Aw
namespace Go.Proofs.Ytpakfehinfcdoaa
theorem own : ownKnob Try.prog.godebug = none := by kernel_rfl
theorem laidOut : laidOutB Try.prog = true := by kernel_rfl
end Go.Proofs.Ytpakfehinfcdoaa
