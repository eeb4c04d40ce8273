/- From a contract of the engine to a law's row. -/
import Derived.Test.YtkjdplglenjijaaGreatRows
import Derived.Test.YtkjdplglenjijaaGreatChecked
import Derived.ProofKit
import Derived.Deep.Matrix
import Derived.Test.YtkjdplglenjijaaGreatM2
import Derived.Lib.SmallJoins
namespace Go.Aw
open Go.ChangeShapes Go.WideShapes Go.ChangeAt Go.RowKit Go.Deep

section
variable {H : Type} {enc : TypeId × Value → H} {P : Program}

theorem carryAll (hl : laidOutB P = true) {W W' : World} (hb : Below W.heap.size W W') : ∀ {ts : List TypeId} {vs : List Value} {ds : List (DataW H)} {ps : List MemPlace},
    (ts.all fun t => P.readableRec t && decide (t < P.types.size)) = true → (∀ x ∈ ps, x.block < W.heap.size) →
    DataW.TrodAll enc P W 0 (fun _ => true) true ts vs ds ps → DataW.TrodAll enc P W' 0 (fun b => decide (b < W.heap.size)) true ts vs ds ps
  | [], [], [], _, _, _, h => h
  | t :: ts, v :: vs, d :: ds, ps, hr, hlt, h => by
    obtain ⟨p, q, h1, h2, rfl⟩ := h
    simp only [List.all_cons, Bool.and_eq_true, decide_eq_true_eq] at hr
    exact ⟨p, q, Below.trod hl hr.1.1 hr.1.2 h1 hb (fun x hx => hlt x (List.mem_append.2 (.inl hx))), carryAll hl hb hr.2 (fun x hx => hlt x (List.mem_append.2 (.inr hx))) h2, rfl⟩
  | [], [], _ :: _, _, _, _, h => h.elim
  | [], _ :: _, _, _, _, _, h => h.elim
  | _ :: _, [], _, _, _, _, h => h.elim
  | _ :: _, _ :: _, [], _, _, _, h => h.elim

theorem law_post (hl : laidOutB P = true) {f : Func} {s : ChangeSpec} {W W' : World} {args : Array Value} {ds gs : List (DataW H)} {before : List MemPlace} {tb : TypeId} (hs : s.vars = [])
    (hW : DataW.Whole enc P f.params.toList s.vars false W args.toList ds gs before) (hrt : f.resultTypes = #[tb]) (htb : P.underlying tb = some .bool)
    (hr : (f.params.toList.all fun t => P.readableRec t && decide (t < P.types.size)) = true) (h1 : (s.fn H (ds ++ [])).results = [.lit (.bool true)]) (h2 : (s.fn H (ds ++ [])).args = ds) (h3 : (s.fn H (ds ++ [])).vars = [])
    (hb : Below W.heap.size W W') : s.post enc P f false true false false W args (.bool true) W' := by
  have hW' := hW
  obtain ⟨p, q, hA, hV, hbe, hfz, _⟩ := hW
  rw [hs] at hV
  match gs, hV with
  | [], hV =>
    have hq : q = [] := hV
    subst hq
    rw [List.append_nil] at hbe
    subst hbe
    have hlt : ∀ x ∈ before, x.block < W.heap.size := fun x hx => by simpa using hW'.lt x hx
    refine ⟨ds, [], before, [], before, [], hW', ?_, ?_, ?_, hb.frame _, fun h => by cases h⟩
    · rw [h1, hrt]
      exact trodAll_mk1 (shut_bool htb true)
    · rw [h2]
      exact carryAll hl hb hr hlt hA
    · rw [h3, hs]; rfl

theorem cell_plain {w : World} {a : Addr} {v : Value} (h : w.cell? a = some v) : a = ⟨a.block, a.off, none⟩ := by
  obtain ⟨b, o, s⟩ := a
  have := World.cell?_spot h
  simp only at this
  subst this; rfl

/-- a slice of integers that came in -/
theorem rep_ints {t q : TypeId} {k : IntKind} (ht : P.underlying t = some (.slice q)) (hq : P.underlying q = some (.int k)) (cq : P.cellsOf q = 1) {W : World} {a : Option Addr} {n c : Nat} {d : DataW H} {ps : List MemPlace}
    (h : DataW.Trod enc P W 0 (fun _ => true) true t (.slice a n c) d ps) (bad : Nat → Prop) (hbad : ∀ b, b < W.heap.size → ¬ bad b) :
    ∃ l : List Int, SInts W bad k l (.slice a n c) ∧ l.length ≤ 9223372036854775807 ∧ ∀ x ∈ l, (Lit.int k x).wf = true := by
  obtain ⟨fuel, hf⟩ := h
  rcases open_ints ht hq cq hf with ⟨hcs, -⟩ | ⟨a', len, cap, zs, hcs, _, hl, hm, hz, _, hcell, hwz⟩
  · simp [Value.cells] at hcs
    obtain ⟨rfl, rfl, rfl⟩ := hcs
    exact ⟨[], ⟨none, 0, rfl, Nat.le_refl _, Nat.zero_le _, fun i x hi => by simp at hi⟩, by simp, by simp⟩
  · simp [Value.cells] at hcs
    obtain ⟨rfl, rfl, rfl⟩ := hcs
    simp only [if_true] at hz
    have hlen : (zs.take n).length = n := by rw [List.length_take]; omega
    refine ⟨zs.take n, ⟨some a', c, by rw [hlen], by rw [hlen]; exact hl, hm, fun i x hi => ?_⟩, ?_, fun x hx => hwz x (List.mem_of_mem_take hx)⟩
    · have hin : i < n := by have := (List.getElem?_eq_some_iff.1 hi).1; omega
      have h0 := hcell i (by omega)
      have hlt := World.block_lt_of_cell? W _ (hcell 0 (by omega))
      have hpl := cell_plain (hcell 0 (by omega))
      simp only [Addr.add, if_true] at hpl hlt
      refine ⟨a'.block, a'.off, congrArg some hpl, hbad _ hlt, ?_⟩
      have hx : zs.getD i 0 = x := by
        rw [List.getElem?_take_of_lt hin] at hi
        rw [List.getD_eq_getElem?_getD, hi]; rfl
      rw [hx, hpl, add_plain] at h0
      exact h0
    · rw [hlen]; unfold maxLen at hm; omega

/-- a slice of slices of integers that came in -/
theorem rep_rows {t e q : TypeId} (ht : P.underlying t = some (.slice e)) (he : P.underlying e = some (.slice q)) (hq : P.underlying q = some (.int .i64)) (ce : P.cellsOf e = 1) (cq : P.cellsOf q = 1) {W : World} {a : Option Addr} {n c : Nat} {d : DataW H} {ps : List MemPlace}
    (h : DataW.Trod enc P W 0 (fun _ => true) true t (.slice a n c) d ps) (bad : Nat → Prop) (hbad : ∀ b, b < W.heap.size → ¬ bad b) :
    ∃ m : List (List Int), SRows W bad m (.slice a n c) ∧ m.length ≤ 9223372036854775807 ∧ (∀ l ∈ m, l.length ≤ 9223372036854775807) ∧ ∀ l ∈ m, ∀ x ∈ l, (Lit.int .i64 x).wf = true := by
  obtain ⟨fuel, hf⟩ := h
  rcases open_int_rows ht he hq ce cq hf with ⟨hcs, -⟩ | ⟨a', len, cap, A, L, C, Z, hcs, _, hl, hm, _, hrow⟩
  · simp [Value.cells] at hcs
    obtain ⟨rfl, rfl, rfl⟩ := hcs
    exact ⟨[], ⟨none, 0, rfl, Nat.le_refl _, Nat.zero_le _, fun i x hi => by simp at hi⟩, by simp, by simp, by simp⟩
  · simp [Value.cells] at hcs
    obtain ⟨rfl, rfl, rfl⟩ := hcs
    have hlen : ((List.range n).map fun r => (Z r).take (L r)).length = n := by simp
    have hlr : ∀ r, r < c → ((Z r).take (L r)).length = L r := fun r hr => by
      obtain ⟨_, h1, _, h3, _⟩ := hrow r hr
      rw [List.length_take]; omega
    refine ⟨(List.range n).map fun r => (Z r).take (L r), ⟨some a', c, by rw [hlen], by rw [hlen]; exact hl, hm, fun i l hi => ?_⟩, ?_, ?_, ?_⟩
    · have hin : i < n := by have := (List.getElem?_eq_some_iff.1 hi).1; omega
      have hil : (Z i).take (L i) = l := by simpa [List.getElem?_map, List.getElem?_range hin] using hi
      obtain ⟨h0, h1, h2, h3, h4, h5, h6⟩ := hrow i (by omega)
      have hlt := World.block_lt_of_cell? W _ (hrow 0 (by omega)).1
      have hpl := cell_plain (hrow 0 (by omega)).1
      simp only [Addr.add, if_true] at hpl hlt
      refine ⟨a'.block, a'.off, .slice (A i) (L i) (C i), congrArg some hpl, hbad _ hlt, ?_, ?_⟩
      · rw [hpl, add_plain] at h0
        exact h0
      · subst hil
        have hli := hlr i (by omega)
        refine ⟨A i, C i, by rw [hli], by rw [hli]; exact h1, h2, fun j x hj => ?_⟩
        have hjl : j < L i := by have := (List.getElem?_eq_some_iff.1 hj).1; omega
        cases hA : A i with
        | none => have := h5 hA; omega
        | some b =>
          obtain ⟨_, h7⟩ := h6 b hA
          have hlt2 := World.block_lt_of_cell? W _ (h7 0 (by omega))
          have hpl2 := cell_plain (h7 0 (by omega))
          simp only [Addr.add, if_true] at hpl2 hlt2
          have h8 := h7 j (by omega)
          refine ⟨b.block, b.off, congrArg some hpl2, hbad _ hlt2, ?_⟩
          have hx : (Z i).getD j 0 = x := by
            rw [List.getElem?_take_of_lt hjl] at hj
            rw [List.getD_eq_getElem?_getD, hj]; rfl
          rw [hx, hpl2, add_plain] at h8
          exact h8
    · rw [hlen]; unfold maxLen at hm; omega
    · intro l hl'
      obtain ⟨r, hr, rfl⟩ := List.mem_map.1 hl'
      have hrn := List.mem_range.1 hr
      rw [hlr r (by omega)]
      obtain ⟨_, h1, h2, _⟩ := hrow r (by omega)
      unfold maxLen at h2; omega
    · intro l hl' x hx
      obtain ⟨r, hr, rfl⟩ := List.mem_map.1 hl'
      have hrn := List.mem_range.1 hr
      exact (hrow r (by omega)).2.2.2.2.1 x (List.mem_of_mem_take hx)
end

/-- the contract of a law, run -/
theorem FSpec.law {P : Program} {f : FuncId} {args : List AVal} (h : FSpec P f args (ex (.c (.bool true)) [])) {W : World} {vs : List Value} (hv : VReps W (fun _ => False) [] 0 η0 args vs) :
    Calls P f vs.toArray W fun e W' => e = .returned (.bool true) ∧ Below W.heap.size W W' := by
  refine (h.2 W (fun _ => False) vs (fun _ h => h.elim) hv).mono ?_
  rintro e W' ⟨v, x, hr, η, rfl, ⟨rfl, rfl⟩, hb, _, hx⟩
  exact ⟨by rw [hx.1], hb⟩
end Go.Aw
namespace Go.Proofs.YtkjdplglenjijaaGreat
theorem own : ownKnob Tryz.prog.godebug = none := by kernel_rfl
theorem laidOut : laidOutB Tryz.prog = true := by kernel_rfl
end Go.Proofs.YtkjdplglenjijaaGreat
/- Arguments of laws, of each type: what they read as. -/
namespace Go.Aw
open Go.ChangeShapes Go.WideShapes Go.ChangeAt Go.RowKit Go.Deep Go.Joins

theorem wf_InR {n : Int} (h : (Lit.int .i64 n).wf = true) : InR n := by
  have e1 : IntKind.i64.min = -9223372036854775808 := by decide
  have e2 : IntKind.i64.max = 9223372036854775807 := by decide
  simp [Lit.wf] at h
  unfold InR
  omega

section
variable {H : Type} {enc : TypeId × Value → H} {P : Program}

theorem arg_int {t : TypeId} (ht : P.underlying t = some (.int .i64)) {W : World} {r : Reach} {b0 : Nat} {v : Value} {d : DataW H} {ps : List MemPlace} (hv : Value.okWide P W r b0 t v) (h : DataW.Trod enc P W 0 (fun _ => true) true t v d ps) :
    ∃ n, InR n ∧ VRep W (fun _ => False) [] 0 η0 (.c (.int .i64 n)) v := by
  obtain ⟨n, rfl, _, _, hw⟩ := open_int ht hv h
  exact ⟨n, wf_InR hw, rfl, rfl⟩

theorem arg_ints {t q : TypeId} (ht : P.underlying t = some (.slice q)) (hq : P.underlying q = some (.int .i64)) (cq : P.cellsOf q = 1) {W : World} {r : Reach} {b0 : Nat} {v : Value} {d : DataW H} {ps : List MemPlace}
    (hv : Value.okWide P W r b0 t v) (h : DataW.Trod enc P W 0 (fun _ => true) true t v d ps) : ∃ l, OkI l ∧ VRep W (fun _ => False) [] 0 η0 (.t (.ints .i64 l)) v := by
  obtain ⟨a, n, c, rfl⟩ := okWide_slice ht hv
  obtain ⟨l, h1, h2, h3⟩ := rep_ints ht hq cq h (fun _ => False) (fun _ _ h => h)
  exact ⟨l, ⟨h2, fun x hx => wf_InR (h3 x hx)⟩, h1⟩

def OkBy (l : List Int) : Prop := l.length ≤ 9223372036854775807 ∧ ∀ x, x ∈ l → 0 ≤ x ∧ x ≤ 255
theorem wf_by {n : Int} (h : (Lit.int .u8 n).wf = true) : 0 ≤ n ∧ n ≤ 255 := by
  have e1 : IntKind.u8.min = 0 := by decide
  have e2 : IntKind.u8.max = 255 := by decide
  simp [Lit.wf] at h
  omega
theorem arg_bytes {t q : TypeId} (ht : P.underlying t = some (.slice q)) (hq : P.underlying q = some (.int .u8)) (cq : P.cellsOf q = 1) {W : World} {r : Reach} {b0 : Nat} {v : Value} {d : DataW H} {ps : List MemPlace}
    (hv : Value.okWide P W r b0 t v) (h : DataW.Trod enc P W 0 (fun _ => true) true t v d ps) : ∃ l, OkBy l ∧ VRep W (fun _ => False) [] 0 η0 (.t (.ints .u8 l)) v := by
  obtain ⟨a, n, c, rfl⟩ := okWide_slice ht hv
  obtain ⟨l, h1, h2, h3⟩ := rep_ints ht hq cq h (fun _ => False) (fun _ _ h => h)
  exact ⟨l, ⟨h2, fun x hx => wf_by (h3 x hx)⟩, h1⟩

theorem arg_rows {t e q : TypeId} (ht : P.underlying t = some (.slice e)) (he : P.underlying e = some (.slice q)) (hq : P.underlying q = some (.int .i64)) (ce : P.cellsOf e = 1) (cq : P.cellsOf q = 1) {W : World} {r : Reach} {b0 : Nat} {v : Value} {d : DataW H} {ps : List MemPlace}
    (hv : Value.okWide P W r b0 t v) (h : DataW.Trod enc P W 0 (fun _ => true) true t v d ps) : ∃ m, OkM m ∧ VRep W (fun _ => False) [] 0 η0 (.t (.rows m)) v := by
  obtain ⟨a, n, c, rfl⟩ := okWide_slice ht hv
  obtain ⟨m, h1, h2, h3, h4⟩ := rep_rows ht he hq ce cq h (fun _ => False) (fun _ _ h => h)
  exact ⟨m, ⟨h2, fun r hr => ⟨h3 r hr, fun x hx => wf_InR (h4 r hr x hx)⟩⟩, h1⟩

theorem in_int {t : TypeId} (ht : P.underlying t = some (.int .i64)) {W : World} {v : Value} {n : Nat} {y : DataW H × List MemPlace} (h : DataW.trod enc P W 0 (fun _ => true) true n t [v] = some y) :
    ∃ n, InR n ∧ VRep W (fun _ => False) [] 0 η0 (.c (.int .i64 n)) v := by
  obtain ⟨n', h1, _, hw⟩ := DataW.trod_int ht h
  simp at h1
  subst h1
  exact ⟨n', wf_InR hw, rfl, rfl⟩

theorem in_ints {t q : TypeId} (ht : P.underlying t = some (.slice q)) (hq : P.underlying q = some (.int .i64)) (cq : P.cellsOf q = 1) {W : World} {v : Value} {n : Nat} {y : DataW H × List MemPlace}
    (h : DataW.trod enc P W 0 (fun _ => true) true n t [v] = some y) : ∃ l, OkI l ∧ VRep W (fun _ => False) [] 0 η0 (.t (.ints .i64 l)) v := by
  obtain ⟨a, len, c, rfl⟩ : ∃ a len c, v = .slice a len c := by
    rcases open_ints ht hq cq h with ⟨hcs, -⟩ | ⟨a', len, cap, zs, hcs, _⟩
    · simp at hcs; exact ⟨_, _, _, hcs⟩
    · simp at hcs; exact ⟨_, _, _, hcs⟩
  obtain ⟨l, h1, h2, h3⟩ := rep_ints ht hq cq (d := y.1) (ps := y.2) ⟨n, by simpa [Value.cells] using h⟩ (fun _ => False) (fun _ _ h => h)
  exact ⟨l, ⟨h2, fun x hx => wf_InR (h3 x hx)⟩, h1⟩

theorem in_rows {t e q : TypeId} (ht : P.underlying t = some (.slice e)) (he : P.underlying e = some (.slice q)) (hq : P.underlying q = some (.int .i64)) (ce : P.cellsOf e = 1) (cq : P.cellsOf q = 1) {W : World} {v : Value} {n : Nat} {y : DataW H × List MemPlace}
    (h : DataW.trod enc P W 0 (fun _ => true) true n t [v] = some y) : ∃ m, OkM m ∧ VRep W (fun _ => False) [] 0 η0 (.t (.rows m)) v := by
  obtain ⟨a, len, c, rfl⟩ : ∃ a len c, v = .slice a len c := by
    rcases open_int_rows ht he hq ce cq h with ⟨hcs, -⟩ | ⟨a', len, cap, A, L, C, Z, hcs, _⟩
    · simp at hcs; exact ⟨_, _, _, hcs⟩
    · simp at hcs; exact ⟨_, _, _, hcs⟩
  obtain ⟨m, h1, h2, h3, h4⟩ := rep_rows ht he hq ce cq (d := y.1) (ps := y.2) ⟨n, by simpa [Value.cells] using h⟩ (fun _ => False) (fun _ _ h => h)
  exact ⟨m, ⟨h2, fun r hr => ⟨h3 r hr, fun x hx => wf_InR (h4 r hr x hx)⟩⟩, h1⟩

theorem arg_scene {t ti tm tl : TypeId} {f0 f1 f2 : Field} (hs : P.underlying t = some (.struct #[f0, f1, f2])) (hone : oneCellFields P #[f0, f1, f2] = true) (hC : P.cellsOf t = 3)
    (e0 : f0.type = ti) (e1 : f1.type = tm) (e2 : f2.type = tl) (hi : P.underlying ti = some (.int .i64)) (hl : P.underlying tl = some (.slice ti)) (hm : P.underlying tm = some (.slice tl)) (ci : P.cellsOf ti = 1) (cl : P.cellsOf tl = 1)
    {W : World} {r : Reach} {b0 : Nat} {v : Value} {d : DataW H} {ps : List MemPlace} (hv : Value.okWide P W r b0 t v) (h : DataW.Trod enc P W 0 (fun _ => true) true t v d ps) :
    ∃ e m s, InR e ∧ OkM m ∧ OkI s ∧ VRep W (fun _ => False) [] 0 η0 (.ag [.c (.int .i64 e), .t (.rows m), .t (.ints .i64 s)]) v := by
  obtain ⟨v0, v1, v2, y0, y1, y2, n, rfl, _, _, h0, h1, h2⟩ := open_agg3 hs hone hC hv h
  subst e0 e1 e2
  obtain ⟨e, g1, r1⟩ := in_int hi h0
  obtain ⟨m, g2, r2⟩ := in_rows hm hl hi cl ci h1
  obtain ⟨s, g3, r3⟩ := in_ints hl hi ci h2
  exact ⟨e, m, s, g1, g2, g3, [v0, v1, v2], rfl, r1, r2, r3, trivial⟩

theorem arg_box {t ti tm tl : TypeId} {f0 f1 f2 f3 : Field} (hs : P.underlying t = some (.struct #[f0, f1, f2, f3])) (hone : oneCellFields P #[f0, f1, f2, f3] = true) (hC : P.cellsOf t = 4)
    (e0 : f0.type = ti) (e1 : f1.type = ti) (e2 : f2.type = ti) (e3 : f3.type = tm) (hi : P.underlying ti = some (.int .i64)) (hl : P.underlying tl = some (.slice ti)) (hm : P.underlying tm = some (.slice tl)) (ci : P.cellsOf ti = 1) (cl : P.cellsOf tl = 1)
    {W : World} {r : Reach} {b0 : Nat} {v : Value} {d : DataW H} {ps : List MemPlace} (hv : Value.okWide P W r b0 t v) (h : DataW.Trod enc P W 0 (fun _ => true) true t v d ps) :
    ∃ x y z m, InR x ∧ InR y ∧ InR z ∧ OkM m ∧ VRep W (fun _ => False) [] 0 η0 (.ag [.c (.int .i64 x), .c (.int .i64 y), .c (.int .i64 z), .t (.rows m)]) v := by
  obtain ⟨v0, v1, v2, v3, y0, y1, y2, y3, n, rfl, _, _, h0, h1, h2, h3⟩ := open_agg4 hs hone hC hv h
  subst e0 e3
  rw [e1] at h1; rw [e2] at h2
  obtain ⟨x, g0, r0⟩ := in_int hi h0
  obtain ⟨y, g1, r1⟩ := in_int hi h1
  obtain ⟨z, g2, r2⟩ := in_int hi h2
  obtain ⟨m, g3, r3⟩ := in_rows hm hl hi cl ci h3
  exact ⟨x, y, z, m, g0, g1, g2, g3, [v0, v1, v2, v3], rfl, r0, r1, r2, r3, trivial⟩

theorem arg_game {t ti tm tl : TypeId} {f0 f1 f2 f3 : Field} (hs : P.underlying t = some (.struct #[f0, f1, f2, f3])) (hone : oneCellFields P #[f0, f1, f2, f3] = true) (hC : P.cellsOf t = 4)
    (e0 : f0.type = ti) (e1 : f1.type = ti) (e2 : f2.type = tl) (e3 : f3.type = tm) (hi : P.underlying ti = some (.int .i64)) (hl : P.underlying tl = some (.slice ti)) (hm : P.underlying tm = some (.slice tl)) (ci : P.cellsOf ti = 1) (cl : P.cellsOf tl = 1)
    {W : World} {r : Reach} {b0 : Nat} {v : Value} {d : DataW H} {ps : List MemPlace} (hv : Value.okWide P W r b0 t v) (h : DataW.Trod enc P W 0 (fun _ => true) true t v d ps) :
    ∃ x y s m, InR x ∧ InR y ∧ OkI s ∧ OkM m ∧ VRep W (fun _ => False) [] 0 η0 (.ag [.c (.int .i64 x), .c (.int .i64 y), .t (.ints .i64 s), .t (.rows m)]) v := by
  obtain ⟨v0, v1, v2, v3, y0, y1, y2, y3, n, rfl, _, _, h0, h1, h2, h3⟩ := open_agg4 hs hone hC hv h
  subst e0 e2 e3
  rw [e1] at h1
  obtain ⟨x, g0, r0⟩ := in_int hi h0
  obtain ⟨y, g1, r1⟩ := in_int hi h1
  obtain ⟨z, g2, r2⟩ := in_ints hl hi ci h2
  obtain ⟨m, g3, r3⟩ := in_rows hm hl hi cl ci h3
  exact ⟨x, y, z, m, g0, g1, g2, g3, [v0, v1, v2, v3], rfl, r0, r1, r2, r3, trivial⟩
end
end Go.Aw
