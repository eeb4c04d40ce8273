/- Arguments of laws, of each type: what they read as. -/
import Derived.Test.YtpakfehinfcdoaaLift
import Derived.Test.YtpakfehinfcdoaaMark
import Derived.Lib.SmallJoins
namespace Go.Aw
open Go.ChangeShapes Go.WideShapes Go.ChangeAt Go.RowKit Go.Deep Go.Joins

theorem wf_InR {n : Int} (h : (Lit.int .i64 n).wf = true) : InR n := by
  have e1 : IntKind.i64.min = -9223372036854775808 := by decide
  have e2 : IntKind.i64.max = 9223372036854775807 := by decide
  simp [Lit.wf] at h
  unfold InR
  omega

section
variable {H : Type} {enc : TypeId × Value → H} {P : Program}

theorem arg_int {t : TypeId} (ht : P.underlying t = some (.int .i64)) {W : World} {r : Reach} {b0 : Nat} {v : Value} {d : DataW H} {ps : List MemPlace} (hv : Value.okWide P W r b0 t v) (h : DataW.Trod enc P W 0 (fun _ => true) true t v d ps) :
    ∃ n, InR n ∧ VRep W (fun _ => False) [] 0 η0 (.c (.int .i64 n)) v := by
  obtain ⟨n, rfl, _, _, hw⟩ := open_int ht hv h
  exact ⟨n, wf_InR hw, rfl, rfl⟩

theorem arg_ints {t q : TypeId} (ht : P.underlying t = some (.slice q)) (hq : P.underlying q = some (.int .i64)) (cq : P.cellsOf q = 1) {W : World} {r : Reach} {b0 : Nat} {v : Value} {d : DataW H} {ps : List MemPlace}
    (hv : Value.okWide P W r b0 t v) (h : DataW.Trod enc P W 0 (fun _ => true) true t v d ps) : ∃ l, OkI l ∧ VRep W (fun _ => False) [] 0 η0 (.t (.ints .i64 l)) v := by
  obtain ⟨a, n, c, rfl⟩ := okWide_slice ht hv
  obtain ⟨l, h1, h2, h3⟩ := rep_ints ht hq cq h (fun _ => False) (fun _ _ h => h)
  exact ⟨l, ⟨h2, fun x hx => wf_InR (h3 x hx)⟩, h1⟩

def OkBy (l : List Int) : Prop := l.length ≤ 9223372036854775807 ∧ ∀ x, x ∈ l → 0 ≤ x ∧ x ≤ 255
theorem wf_by {n : Int} (h : (Lit.int .u8 n).wf = true) : 0 ≤ n ∧ n ≤ 255 := by
  have e1 : IntKind.u8.min = 0 := by decide
  have e2 : IntKind.u8.max = 255 := by decide
  simp [Lit.wf] at h
  omega
theorem arg_bytes {t q : TypeId} (ht : P.underlying t = some (.slice q)) (hq : P.underlying q = some (.int .u8)) (cq : P.cellsOf q = 1) {W : World} {r : Reach} {b0 : Nat} {v : Value} {d : DataW H} {ps : List MemPlace}
    (hv : Value.okWide P W r b0 t v) (h : DataW.Trod enc P W 0 (fun _ => true) true t v d ps) : ∃ l, OkBy l ∧ VRep W (fun _ => False) [] 0 η0 (.t (.ints .u8 l)) v := by
  obtain ⟨a, n, c, rfl⟩ := okWide_slice ht hv
  obtain ⟨l, h1, h2, h3⟩ := rep_ints ht hq cq h (fun _ => False) (fun _ _ h => h)
  exact ⟨l, ⟨h2, fun x hx => wf_by (h3 x hx)⟩, h1⟩

theorem arg_rows {t e q : TypeId} (ht : P.underlying t = some (.slice e)) (he : P.underlying e = some (.slice q)) (hq : P.underlying q = some (.int .i64)) (ce : P.cellsOf e = 1) (cq : P.cellsOf q = 1) {W : World} {r : Reach} {b0 : Nat} {v : Value} {d : DataW H} {ps : List MemPlace}
    (hv : Value.okWide P W r b0 t v) (h : DataW.Trod enc P W 0 (fun _ => true) true t v d ps) : ∃ m, OkM m ∧ VRep W (fun _ => False) [] 0 η0 (.t (.rows m)) v := by
  obtain ⟨a, n, c, rfl⟩ := okWide_slice ht hv
  obtain ⟨m, h1, h2, h3, h4⟩ := rep_rows ht he hq ce cq h (fun _ => False) (fun _ _ h => h)
  exact ⟨m, ⟨h2, fun r hr => ⟨h3 r hr, fun x hx => wf_InR (h4 r hr x hx)⟩⟩, h1⟩

theorem in_int {t : TypeId} (ht : P.underlying t = some (.int .i64)) {W : World} {v : Value} {n : Nat} {y : DataW H × List MemPlace} (h : DataW.trod enc P W 0 (fun _ => true) true n t [v] = some y) :
    ∃ n, InR n ∧ VRep W (fun _ => False) [] 0 η0 (.c (.int .i64 n)) v := by
  obtain ⟨n', h1, _, hw⟩ := DataW.trod_int ht h
  simp at h1
  subst h1
  exact ⟨n', wf_InR hw, rfl, rfl⟩

theorem in_ints {t q : TypeId} (ht : P.underlying t = some (.slice q)) (hq : P.underlying q = some (.int .i64)) (cq : P.cellsOf q = 1) {W : World} {v : Value} {n : Nat} {y : DataW H × List MemPlace}
    (h : DataW.trod enc P W 0 (fun _ => true) true n t [v] = some y) : ∃ l, OkI l ∧ VRep W (fun _ => False) [] 0 η0 (.t (.ints .i64 l)) v := by
  obtain ⟨a, len, c, rfl⟩ : ∃ a len c, v = .slice a len c := by
    rcases open_ints ht hq cq h with ⟨hcs, -⟩ | ⟨a', len, cap, zs, hcs, _⟩
    · simp at hcs; exact ⟨_, _, _, hcs⟩
    · simp at hcs; exact ⟨_, _, _, hcs⟩
  obtain ⟨l, h1, h2, h3⟩ := rep_ints ht hq cq (d := y.1) (ps := y.2) ⟨n, by simpa [Value.cells] using h⟩ (fun _ => False) (fun _ _ h => h)
  exact ⟨l, ⟨h2, fun x hx => wf_InR (h3 x hx)⟩, h1⟩

theorem in_rows {t e q : TypeId} (ht : P.underlying t = some (.slice e)) (he : P.underlying e = some (.slice q)) (hq : P.underlying q = some (.int .i64)) (ce : P.cellsOf e = 1) (cq : P.cellsOf q = 1) {W : World} {v : Value} {n : Nat} {y : DataW H × List MemPlace}
    (h : DataW.trod enc P W 0 (fun _ => true) true n t [v] = some y) : ∃ m, OkM m ∧ VRep W (fun _ => False) [] 0 η0 (.t (.rows m)) v := by
  obtain ⟨a, len, c, rfl⟩ : ∃ a len c, v = .slice a len c := by
    rcases open_int_rows ht he hq ce cq h with ⟨hcs, -⟩ | ⟨a', len, cap, A, L, C, Z, hcs, _⟩
    · simp at hcs; exact ⟨_, _, _, hcs⟩
    · simp at hcs; exact ⟨_, _, _, hcs⟩
  obtain ⟨m, h1, h2, h3, h4⟩ := rep_rows ht he hq ce cq (d := y.1) (ps := y.2) ⟨n, by simpa [Value.cells] using h⟩ (fun _ => False) (fun _ _ h => h)
  exact ⟨m, ⟨h2, fun r hr => ⟨h3 r hr, fun x hx => wf_InR (h4 r hr x hx)⟩⟩, h1⟩

theorem arg_scene {t ti tm tl : TypeId} {f0 f1 f2 : Field} (hs : P.underlying t = some (.struct #[f0, f1, f2])) (hone : oneCellFields P #[f0, f1, f2] = true) (hC : P.cellsOf t = 3)
    (e0 : f0.type = ti) (e1 : f1.type = tm) (e2 : f2.type = tl) (hi : P.underlying ti = some (.int .i64)) (hl : P.underlying tl = some (.slice ti)) (hm : P.underlying tm = some (.slice tl)) (ci : P.cellsOf ti = 1) (cl : P.cellsOf tl = 1)
    {W : World} {r : Reach} {b0 : Nat} {v : Value} {d : DataW H} {ps : List MemPlace} (hv : Value.okWide P W r b0 t v) (h : DataW.Trod enc P W 0 (fun _ => true) true t v d ps) :
    ∃ e m s, InR e ∧ OkM m ∧ OkI s ∧ VRep W (fun _ => False) [] 0 η0 (.ag [.c (.int .i64 e), .t (.rows m), .t (.ints .i64 s)]) v := by
  obtain ⟨v0, v1, v2, y0, y1, y2, n, rfl, _, _, h0, h1, h2⟩ := open_agg3 hs hone hC hv h
  subst e0 e1 e2
  obtain ⟨e, g1, r1⟩ := in_int hi h0
  obtain ⟨m, g2, r2⟩ := in_rows hm hl hi cl ci h1
  obtain ⟨s, g3, r3⟩ := in_ints hl hi ci h2
  exact ⟨e, m, s, g1, g2, g3, [v0, v1, v2], rfl, r1, r2, r3, trivial⟩

theorem arg_box {t ti tm tl : TypeId} {f0 f1 f2 f3 : Field} (hs : P.underlying t = some (.struct #[f0, f1, f2, f3])) (hone : oneCellFields P #[f0, f1, f2, f3] = true) (hC : P.cellsOf t = 4)
    (e0 : f0.type = ti) (e1 : f1.type = ti) (e2 : f2.type = ti) (e3 : f3.type = tm) (hi : P.underlying ti = some (.int .i64)) (hl : P.underlying tl = some (.slice ti)) (hm : P.underlying tm = some (.slice tl)) (ci : P.cellsOf ti = 1) (cl : P.cellsOf tl = 1)
    {W : World} {r : Reach} {b0 : Nat} {v : Value} {d : DataW H} {ps : List MemPlace} (hv : Value.okWide P W r b0 t v) (h : DataW.Trod enc P W 0 (fun _ => true) true t v d ps) :
    ∃ x y z m, InR x ∧ InR y ∧ InR z ∧ OkM m ∧ VRep W (fun _ => False) [] 0 η0 (.ag [.c (.int .i64 x), .c (.int .i64 y), .c (.int .i64 z), .t (.rows m)]) v := by
  obtain ⟨v0, v1, v2, v3, y0, y1, y2, y3, n, rfl, _, _, h0, h1, h2, h3⟩ := open_agg4 hs hone hC hv h
  subst e0 e3
  rw [e1] at h1; rw [e2] at h2
  obtain ⟨x, g0, r0⟩ := in_int hi h0
  obtain ⟨y, g1, r1⟩ := in_int hi h1
  obtain ⟨z, g2, r2⟩ := in_int hi h2
  obtain ⟨m, g3, r3⟩ := in_rows hm hl hi cl ci h3
  exact ⟨x, y, z, m, g0, g1, g2, g3, [v0, v1, v2, v3], rfl, r0, r1, r2, r3, trivial⟩

theorem arg_game {t ti tm tl : TypeId} {f0 f1 f2 f3 : Field} (hs : P.underlying t = some (.struct #[f0, f1, f2, f3])) (hone : oneCellFields P #[f0, f1, f2, f3] = true) (hC : P.cellsOf t = 4)
    (e0 : f0.type = ti) (e1 : f1.type = ti) (e2 : f2.type = tl) (e3 : f3.type = tm) (hi : P.underlying ti = some (.int .i64)) (hl : P.underlying tl = some (.slice ti)) (hm : P.underlying tm = some (.slice tl)) (ci : P.cellsOf ti = 1) (cl : P.cellsOf tl = 1)
    {W : World} {r : Reach} {b0 : Nat} {v : Value} {d : DataW H} {ps : List MemPlace} (hv : Value.okWide P W r b0 t v) (h : DataW.Trod enc P W 0 (fun _ => true) true t v d ps) :
    ∃ x y s m, InR x ∧ InR y ∧ OkI s ∧ OkM m ∧ VRep W (fun _ => False) [] 0 η0 (.ag [.c (.int .i64 x), .c (.int .i64 y), .t (.ints .i64 s), .t (.rows m)]) v := by
  obtain ⟨v0, v1, v2, v3, y0, y1, y2, y3, n, rfl, _, _, h0, h1, h2, h3⟩ := open_agg4 hs hone hC hv h
  subst e0 e2 e3
  rw [e1] at h1
  obtain ⟨x, g0, r0⟩ := in_int hi h0
  obtain ⟨y, g1, r1⟩ := in_int hi h1
  obtain ⟨z, g2, r2⟩ := in_ints hl hi ci h2
  obtain ⟨m, g3, r3⟩ := in_rows hm hl hi cl ci h3
  exact ⟨x, y, z, m, g0, g1, g2, g3, [v0, v1, v2, v3], rfl, r0, r1, r2, r3, trivial⟩
end
end Go.Aw
