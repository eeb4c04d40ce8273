/- The triple worth, the greatest one of all that a box becomes, and whether a box is local: program. -/
import Derived.Test.YtkomndcehdneaaaGreatM3
import Derived.Test.YtkomndcehdneaaaGreatM2
namespace Go.Aw
def ords : List (List Int) := [[0, 1, 2], [0, 2, 1], [1, 0, 2], [1, 2, 0], [2, 0, 1], [2, 1, 0]]
def stt (m : List (List Int)) : Nat → List (List Int)
  | 0 => m
  | _ => swG 3 3 m
/-- what a box becomes -/
def trm (m : List (List Int)) (s : Nat) (f g fl : List Int) : List (List Int) := flG 3 3 (agG 3 (stt m s) f g) fl
def OkFl (fl : List Int) : Prop := fl.length = 6 ∧ ∀ v, v ∈ fl → 0 ≤ v ∧ v ≤ 1
theorem R9.st {m : List (List Int)} (h : R9 m) (s : Nat) : R9 (stt m s) := by
  match s with
  | 0 => exact h
  | _ + 1 => exact h.sw
theorem ords_ok {f : List Int} (h : f ∈ ords) : f.length = 3 ∧ ∀ v, v ∈ f → 0 ≤ v ∧ v < 3 := by
  simp only [ords, List.mem_cons, List.not_mem_nil, or_false] at h
  rcases h with rfl | rfl | rfl | rfl | rfl | rfl <;> exact ⟨rfl, fun v hv => by simp only [List.mem_cons, List.not_mem_nil, or_false] at hv; omega⟩
theorem ords_at {i : Nat} (h : i < 6) : ords.getD i [] ∈ ords := by
  have : i = 0 ∨ i = 1 ∨ i = 2 ∨ i = 3 ∨ i = 4 ∨ i = 5 := by omega
  rcases this with rfl | rfl | rfl | rfl | rfl | rfl <;> simp [ords]
theorem ords_ix {f : List Int} (h : f ∈ ords) : ∃ i, i < 6 ∧ ords.getD i [] = f := by
  simp only [ords, List.mem_cons, List.not_mem_nil, or_false] at h
  rcases h with rfl | rfl | rfl | rfl | rfl | rfl
  · exact ⟨0, by omega, rfl⟩
  · exact ⟨1, by omega, rfl⟩
  · exact ⟨2, by omega, rfl⟩
  · exact ⟨3, by omega, rfl⟩
  · exact ⟨4, by omega, rfl⟩
  · exact ⟨5, by omega, rfl⟩
theorem fl_at {u : Nat} (h : u < 64) : OkFl ((playsL 6).getD u []) := playsL_row (by omega) (by rw [playsL_len]; omega)
theorem fl_ix {fl : List Int} (h : OkFl fl) : ∃ u, u < 64 ∧ (playsL 6).getD u [] = fl := by
  obtain ⟨hl, hv⟩ := h
  match fl, hl with
  | [a, b, c, d, e, f], _ =>
    have ha := hv a (by simp); have hb := hv b (by simp); have hc := hv c (by simp); have hd := hv d (by simp); have he := hv e (by simp); have hf := hv f (by simp)
    have key : ∀ a b c d e f : Nat, a < 2 → b < 2 → c < 2 → d < 2 → e < 2 → f < 2 → ∃ u, u < 64 ∧ (playsL 6).getD u [] = [(a : Int), b, c, d, e, f] := fun a b c d e f h1 h2 h3 h4 h5 h6 => ⟨32 * a + 16 * b + 8 * c + 4 * d + 2 * e + f, by omega, by
      have : ∀ u : Nat, u < 64 → (playsL 6).getD u [] = [((u / 32 % 2 : Nat) : Int), ((u / 16 % 2 : Nat) : Int), ((u / 8 % 2 : Nat) : Int), ((u / 4 % 2 : Nat) : Int), ((u / 2 % 2 : Nat) : Int), ((u % 2 : Nat) : Int)] := by decide +kernel
      rw [this _ (by omega)]
      congr 1
      · congr 1; omega
      congr 1
      · congr 1; omega
      congr 1
      · congr 1; omega
      congr 1
      · congr 1; omega
      congr 1
      · congr 1; omega
      congr 1
      congr 1; omega⟩
    obtain ⟨u, hu, e2⟩ := key a.toNat b.toNat c.toNat d.toNat e.toNat f.toNat (by omega) (by omega) (by omega) (by omega) (by omega) (by omega)
    refine ⟨u, hu, ?_⟩
    rw [e2, Int.toNat_of_nonneg ha.1, Int.toNat_of_nonneg hb.1, Int.toNat_of_nonneg hc.1, Int.toNat_of_nonneg hd.1, Int.toNat_of_nonneg he.1, Int.toNat_of_nonneg hf.1]
/-- the greatest triple worth -/
structure GTrip (m : List (List Int)) (g : Int) : Prop where
  all : ∀ s f h fl, s < 2 → f ∈ ords → h ∈ ords → OkFl fl → tv (trm m s f h fl) ≤ g
  own : ∃ s f h fl, s < 2 ∧ f ∈ ords ∧ h ∈ ords ∧ OkFl fl ∧ g = tv (trm m s f h fl)
theorem GTrip.one {m : List (List Int)} {g g' : Int} (h : GTrip m g) (h' : GTrip m g') : g = g' := by
  have key : ∀ {g g' : Int}, GTrip m g → GTrip m g' → g ≤ g' := fun {g g'} h h' => by
    obtain ⟨s, f, k, fl, h1, h2, h3, h4, e⟩ := h.own
    rw [e]; exact h'.all s f k fl h1 h2 h3 h4
  have := key h h'
  have := key h' h
  omega
/-- nothing done leaves the rows -/
theorem trm_id {m : List (List Int)} (h : R9 m) : trm m 0 [0, 1, 2] [0, 1, 2] [0, 0, 0, 0, 0, 0] = m := by
  obtain ⟨hl, h4, hb⟩ := h
  match m, hl with
  | [r0, r1, r2, r3, r4, r5, r6, r7, r8], _ =>
    have q := fun r hr => h4 r hr
    have f4 : ∀ r : List Int, r.length = 4 → ∃ a b c d, r = [a, b, c, d] := fun r hr => by
      match r, hr with
      | [a, b, c, d], _ => exact ⟨a, b, c, d, rfl⟩
    obtain ⟨_, _, _, _, rfl⟩ := f4 r0 (h4 _ (by simp))
    obtain ⟨_, _, _, _, rfl⟩ := f4 r1 (h4 _ (by simp))
    obtain ⟨_, _, _, _, rfl⟩ := f4 r2 (h4 _ (by simp))
    obtain ⟨_, _, _, _, rfl⟩ := f4 r3 (h4 _ (by simp))
    obtain ⟨_, _, _, _, rfl⟩ := f4 r4 (h4 _ (by simp))
    obtain ⟨_, _, _, _, rfl⟩ := f4 r5 (h4 _ (by simp))
    obtain ⟨_, _, _, _, rfl⟩ := f4 r6 (h4 _ (by simp))
    obtain ⟨_, _, _, _, rfl⟩ := f4 r7 (h4 _ (by simp))
    obtain ⟨_, _, _, _, rfl⟩ := f4 r8 (h4 _ (by simp))
    rfl
/-- what is done so far -/
def tvI (m : List (List Int)) (s i j u : Nat) : Int := tv (trm m s (ords.getD i []) (ords.getD j []) ((playsL 6).getD u []))
structure TTo (m : List (List Int)) (S I J U : Nat) (g : Int) : Prop where
  bd : -20000 ≤ g ∧ g ≤ 20000
  all : ∀ s i j u, s < 2 → i < 6 → j < 6 → u < 64 → (s < S ∨ (s = S ∧ (i < I ∨ (i = I ∧ (j < J ∨ (j = J ∧ u < U)))))) → tvI m s i j u ≤ g
  own : ∃ s f h fl, s < 2 ∧ f ∈ ords ∧ h ∈ ords ∧ OkFl fl ∧ g = tv (trm m s f h fl)
theorem trm_R9 {m : List (List Int)} (h : R9 m) (s : Nat) {f k : List Int} (hf : f ∈ ords) (hk : k ∈ ords) (fl : List Int) : R9 (trm m s f k fl) := ((h.st s).ag (ords_ok hf).1 (ords_ok hk).1).fl fl
theorem TTo.zero {m : List (List Int)} (h : R9 m) : TTo m 0 0 0 0 (tv m) :=
  ⟨tv_bd h.bd, fun s i j u _ _ _ _ h => by omega, ⟨0, [0, 1, 2], [0, 1, 2], [0, 0, 0, 0, 0, 0], by omega, by simp [ords], by simp [ords], ⟨rfl, fun v hv => by simp at hv; omega⟩, by rw [trm_id h]⟩⟩
theorem TTo.nextU {m : List (List Int)} {S I J U : Nat} {g g' : Int} (hm : R9 m) (h : TTo m S I J U g) (hS : S < 2) (hI : I < 6) (hJ : J < 6) (hU : U < 64) (hg : g' = if tvI m S I J U > g then tvI m S I J U else g) : TTo m S I J (U + 1) g' := by
  have hb := tv_bd (trm_R9 hm S (ords_at hI) (ords_at hJ) ((playsL 6).getD U [])).bd
  have hb' : -20000 ≤ tvI m S I J U ∧ tvI m S I J U ≤ 20000 := hb
  have h0 := h.bd
  have h1 : tvI m S I J U ≤ g' ∧ g ≤ g' := by rw [hg]; split <;> omega
  refine ⟨by rw [hg]; split <;> omega, fun s i j u a1 a2 a3 a4 ho => ?_, ?_⟩
  · by_cases e : s = S ∧ i = I ∧ j = J ∧ u = U
    · obtain ⟨rfl, rfl, rfl, rfl⟩ := e; exact h1.1
    · exact Int.le_trans (h.all s i j u a1 a2 a3 a4 (by omega)) h1.2
  · rw [hg]; split
    · exact ⟨S, _, _, _, hS, ords_at hI, ords_at hJ, fl_at hU, rfl⟩
    · exact h.own
theorem TTo.nextJ {m : List (List Int)} {S I J : Nat} {g : Int} (h : TTo m S I J 64 g) : TTo m S I (J + 1) 0 g := ⟨h.bd, fun s i j u a1 a2 a3 a4 ho => h.all s i j u a1 a2 a3 a4 (by omega), h.own⟩
theorem TTo.nextI {m : List (List Int)} {S I : Nat} {g : Int} (h : TTo m S I 6 0 g) : TTo m S (I + 1) 0 0 g := ⟨h.bd, fun s i j u a1 a2 a3 a4 ho => h.all s i j u a1 a2 a3 a4 (by omega), h.own⟩
theorem TTo.nextS {m : List (List Int)} {S : Nat} {g : Int} (h : TTo m S 6 0 0 g) : TTo m (S + 1) 0 0 0 g := ⟨h.bd, fun s i j u a1 a2 a3 a4 ho => h.all s i j u a1 a2 a3 a4 (by omega), h.own⟩
theorem TTo.fin {m : List (List Int)} {g : Int} (h : TTo m 2 0 0 0 g) : GTrip m g :=
  ⟨fun s f k fl a1 a2 a3 a4 => by
    obtain ⟨i, hi, rfl⟩ := ords_ix a2
    obtain ⟨j, hj, rfl⟩ := ords_ix a3
    obtain ⟨u, hu, rfl⟩ := fl_ix a4
    exact h.all s i j u a1 hi hj hu (by omega), h.own⟩
theorem wSm {n : Int} (h1 : -100000 ≤ n) (h2 : n ≤ 100000) : IntKind.i64.wrap n = n := w64 (by omega) (by omega)
end Go.Aw
namespace Go.Proofs.YtkomndcehdneaaaGreat.L
open Go.Aw
set_option maxRecDepth 100000
set_option maxHeartbeats 4000000

theorem tr1_spec (x y : Nat) (hx : x < 3) (hy : y < 3) (z : Int) (m : List (List Int)) (hm : m.length = 9) (h4 : ∀ r, r ∈ m → r.length = 4) :
    FSpec Tryz.prog 139 [.c (.int .i64 (x)), .c (.int .i64 (y)), .rp [.c (.int .i64 (3)), .c (.int .i64 (3)), .c (.int .i64 (z)), .t (.rows m)] 0] (ex (.c (.int .i64 (n3 m (x * 3 + y)))) []) := by
  have hr := h4 _ (getD_mem (d := []) (show x * 3 + y < m.length by omega))
  refine fspec tyOk mx Tryz.func139 rfl (by kernel_rfl) rfl ?_
  conv => whnf
  refine ACall.use (at_spec 3 3 x y 1 1 z m (by omega) (by omega) (by omega) (by omega)) ?_
  conv => whnf
  exact ⟨rfl, rfl⟩
theorem triple_spec (z : Int) (m : List (List Int)) (h9 : R9 m) : FSpec Tryz.prog 68 [.ag [.c (.int .i64 (3)), .c (.int .i64 (3)), .c (.int .i64 (z)), .t (.rows m)]] (ex (.c (.int .i64 (tv m))) []) := by
  obtain ⟨hm, h4, hb⟩ := h9
  have a0 := hb 0 3; have a1 := hb 1 3; have a2 := hb 2 3; have a3 := hb 3 3; have a4 := hb 4 3; have a5 := hb 5 3; have a6 := hb 6 3; have a7 := hb 7 3
  have b0 := hb 0 2; have b1 := hb 0 1; have b2 := hb 1 1
  have t1 := fun x y hx hy => tr1_spec x y hx hy z m hm h4
  have hc : (cntL 3 3 m).length = 6 := by simp [cntL]
  refine fspec tyOk mx Tryz.func68 rfl (by kernel_rfl) rfl ?_
  conv => whnf
  refine ACall.use (counts_spec 3 3 z m (by omega) (by omega) (by omega) (by omega) hm h4) ?_
  conv => whnf
  refine ADraw.std tyOk mx ⟨by kernel_rfl, ?_⟩
  conv => whnf
  refine QCall.use (t1 0 0 (by omega) (by omega)) ?_
  conv => whnf
  refine QCall.use (t1 0 1 (by omega) (by omega)) ?_
  conv => whnf
  refine QCall.use (t1 0 2 (by omega) (by omega)) ?_
  conv => whnf
  refine QCall.use (t1 1 0 (by omega) (by omega)) ?_
  conv => whnf
  refine QCall.use (t1 1 1 (by omega) (by omega)) ?_
  conv => whnf
  refine QCall.use (t1 1 2 (by omega) (by omega)) ?_
  conv => whnf
  refine QCall.use (t1 2 0 (by omega) (by omega)) ?_
  conv => whnf
  refine QCall.use (t1 2 1 (by omega) (by omega)) ?_
  conv => whnf
  refine ⟨0, rfl, by omega, ?_⟩
  conv => whnf
  refine ⟨3, rfl, by omega, ?_⟩
  conv => whnf
  refine ⟨4, rfl, by omega, ?_⟩
  conv => whnf
  have c0 : (cntL 3 3 m).getD 0 0 = IntKind.i64.wrap (o0 m 0) := rfl
  have c3 : (cntL 3 3 m).getD 3 0 = IntKind.i64.wrap (o1 m 0) := rfl
  have c4 : (cntL 3 3 m).getD 4 0 = IntKind.i64.wrap (o1 m 1) := rfl
  rw [c0, c3, c4]
  refine ⟨?_, rfl⟩
  congr 2
  unfold o0 o1 n3
  simp only [Nat.reduceMul, Nat.reduceAdd]
  simp (disch := omega) only [wSm]
  rfl
end Go.Proofs.YtkomndcehdneaaaGreat.L
/- The greatest triple worth; whether a box is local: program. -/
namespace Go.Aw
/-- local, as the program has it -/
structure Loc (nx ny : Nat) (z : Int) (m : List (List Int)) : Prop where
  quiet : quietF nx ny m = true
  sums : ∀ a b c d k, a < b → b < nx → c < d → d < ny → k < 4 → abV (sum4V ny m a b c d k) ≤ 2 * z
  trip : nx = 3 → ny = 3 → ∀ s f h fl, s < 2 → f ∈ ords → h ∈ ords → OkFl fl → tv (trm m s f h fl) ≤ 0
noncomputable def locB (nx ny : Nat) (z : Int) (m : List (List Int)) : Bool := @decide (Loc nx ny z m) (Classical.propDecidable _)
theorem locB_true {nx ny : Nat} {z : Int} {m : List (List Int)} : locB nx ny z m = true ↔ Loc nx ny z m := by simp [locB]
theorem locB_of {nx ny : Nat} {z : Int} {m : List (List Int)} {b : Bool} (h : b = true ↔ Loc nx ny z m) : locB nx ny z m = b := by
  by_cases hl : Loc nx ny z m
  · rw [locB_true.2 hl, h.2 hl]
  · cases hb : b with
    | true => exact absurd (h.1 hb) hl
    | false =>
      cases hc : locB nx ny z m with
      | true => exact absurd (locB_true.1 hc) hl
      | false => rfl
theorem GSum.le {nx ny : Nat} {m : List (List Int)} {g : Int} (h : GSum nx ny m g) {z : Int} (hz : 0 ≤ z) : g ≤ z ↔ ∀ a b c d k, a < b → b < nx → c < d → d < ny → k < 4 → abV (sum4V ny m a b c d k) ≤ z :=
  ⟨fun hg a b c d k h1 h2 h3 h4 h5 => Int.le_trans (h.all a b c d k h1 h2 h3 h4 h5) hg, fun hs => by
    rcases h.own with e | ⟨a, b, c, d, k, h1, h2, h3, h4, h5, e⟩
    · omega
    · rw [e]; exact hs a b c d k h1 h2 h3 h4 h5⟩
theorem GTrip.le {m : List (List Int)} {g : Int} (h : GTrip m g) {z : Int} : g ≤ z ↔ ∀ s f k fl, s < 2 → f ∈ ords → k ∈ ords → OkFl fl → tv (trm m s f k fl) ≤ z :=
  ⟨fun hg s f k fl h1 h2 h3 h4 => Int.le_trans (h.all s f k fl h1 h2 h3 h4) hg, fun hs => by
    obtain ⟨s, f, k, fl, h1, h2, h3, h4, e⟩ := h.own
    rw [e]; exact hs s f k fl h1 h2 h3 h4⟩
end Go.Aw
namespace Go.Proofs.YtkomndcehdneaaaGreat.L
open Go.Aw
set_option maxRecDepth 100000
set_option maxHeartbeats 16000000

def gtP (m : List (List Int)) : AVal → List (Nat × ARow) → Prop := fun v h => h = [] ∧ ∃ g : Int, GTrip m g ∧ v = .c (.int .i64 g)
theorem greatestTriple_spec (z : Int) (m : List (List Int)) (h9 : R9 m) : FSpec Tryz.prog 71 [.ag [.c (.int .i64 (3)), .c (.int .i64 (3)), .c (.int .i64 (z)), .t (.rows m)]] (gtP m) := by
  have hpl : (playsL 6).length = 64 := playsL_len 6
  refine fspec tyOk mx Tryz.func71 rfl (by kernel_rfl) rfl ?_
  conv => whnf
  refine ACall.use (triple_spec z m h9) ?_
  conv => whnf
  refine ADraw.plan tyOk mx (.q 0 (.q 1 (.q 4 (.last 2 (.q 3 (.done))))) : Plan) (by kernel_rfl) ?_
  conv => whnf
  repeat' (first
    | (refine ACall.useR (FSpec.toldL (swapped_spec 3 3 (by omega) (by omega) z m h9.len h9.four) (x' := .ag [.c (.int .i64 (3)), .c (.int .i64 (3)), .c (.int .i64 (z)), .t (.rows (swG 3 3 m))]) ⟨rfl, rfl, rfl, ⟨rfl, rfl⟩, trivial⟩) ?_; conv => whnf)
    | (refine And.intro ?_ ?_ <;> (conv => whnf)))
  all_goals
    refine aloopI tyOk mx (fun i : Nat × Int => (⟨63, [(1, .ptr 0 0), (2, .c (.int .i64 (0))), (3, .own 1), (4, .c (.int .i64 (i.2))), (26, .ag [.c (.int .i64 (3)), .c (.int .i64 (3)), .c (.int .i64 (z)), .t (.rows m), .c (.int .i64 (3)), .c (.int .i64 (3)), .c (.int .i64 (z)), .t (.rows (swG 3 3 m))]), (27, .c (.int .i64 (i.1)))], [(0, .cells 26 [.c (.int .i64 (3)), .c (.int .i64 (3)), .c (.int .i64 (z)), .t (.rows m)]), (1, .rows 38 3 true ords)], 2⟩ : St)) (fun i => i.1 ≤ 2 ∧ TTo m i.1 0 0 0 i.2) (fun i => 2 - i.1) (0, tv m) ⟨by simp only; omega, TTo.zero h9⟩ (some [(0, .row 0), (1, .row 7)]) (by (refine ⟨rfl, rfl, ?_, ?_⟩ <;> ((repeat' (first | exact trivial | exact rfl | refine And.intro ?_ ?_)) <;> (try ((conv => whnf); first | refine vint ?_ | refine vboo ?_ | refine rint ?_ | refine rrow ?_ | skip)) <;> (try first | omega | (simp; done) | ((repeat rw [flts_closed _ (by assumption)]); exact vws_closed _ (by assumption)))))) (fun i hi => ?_)
    obtain ⟨i, g⟩ := i
    obtain ⟨i1, i2⟩ := hi
    simp only at i1 i2
    dsimp only
    refine ⟨fun h => ?_, fun h => ?_⟩
    · have h : i < 2 := by have := of_decide_eq_true h; omega
      have hc : i = 0 ∨ i = 1 := by omega
      rcases hc with rfl | rfl
      · conv => whnf
        refine ⟨0, rfl, by omega, ?_⟩
        conv => whnf
        have r9 : R9 (stt m 0) := h9.st 0
        refine aloopI tyOk mx (fun j : Nat × Int => (⟨63, [(1, .ptr 0 0), (2, .c (.int .i64 (0))), (3, .own 1), (4, .c (.int .i64 (j.2))), (6, .ptr 2 0), (26, .ag [.c (.int .i64 (3)), .c (.int .i64 (3)), .c (.int .i64 (z)), .t (.rows m), .c (.int .i64 (3)), .c (.int .i64 (3)), .c (.int .i64 (z)), .t (.rows (swG 3 3 m))]), (27, .c (.int .i64 ((0 : Nat)))), (30, .own 1), (31, .c (.int .i64 (6))), (32, .c (.int .i64 (j.1)))], [(0, .cells 26 [.c (.int .i64 (3)), .c (.int .i64 (3)), .c (.int .i64 (z)), .t (.rows m)]), (1, .rows 38 3 true ords), (2, .cells 26 [.c (.int .i64 (3)), .c (.int .i64 (3)), .c (.int .i64 (z)), .t (.rows (stt m 0))])], 3⟩ : St)) (fun j => j.1 ≤ 6 ∧ TTo m 0 j.1 0 0 j.2) (fun j => 6 - j.1) (0, g) ⟨by simp only; omega, i2⟩ none (by refine ⟨rfl, rfl, ?_, ?_⟩ <;> ((repeat' (first | exact trivial | exact rfl | refine And.intro ?_ ?_)) <;> (try ((conv => whnf); first | refine vint ?_ | refine vboo ?_ | refine rint ?_ | refine rrow ?_ | skip)) <;> (try first | omega | (simp; done) | ((repeat rw [flts_closed _ (by assumption)]); exact vws_closed _ (by assumption))))) (fun j hj => ?_)
        obtain ⟨j, g⟩ := j
        obtain ⟨j1, j2⟩ := hj
        simp only at j1 j2
        dsimp only
        refine ⟨fun h2 => ?_, fun h2 => ?_⟩
        · have h2 : j < 6 := by have := of_decide_eq_true h2; omega
          have of1 := ords_ok (ords_at h2)
          conv => whnf
          refine ⟨j, rfl, h2, ?_⟩
          conv => whnf
          refine aloopI tyOk mx (fun k : Nat × Int => (⟨63, [(1, .ptr 0 0), (2, .c (.int .i64 (0))), (3, .own 1), (4, .c (.int .i64 (k.2))), (6, .ptr 2 0), (8, .sub 1 j), (26, .ag [.c (.int .i64 (3)), .c (.int .i64 (3)), .c (.int .i64 (z)), .t (.rows m), .c (.int .i64 (3)), .c (.int .i64 (3)), .c (.int .i64 (z)), .t (.rows (swG 3 3 m))]), (27, .c (.int .i64 ((0 : Nat)))), (30, .own 1), (31, .c (.int .i64 (6))), (32, .c (.int .i64 (j))), (36, .own 1), (37, .c (.int .i64 (6))), (38, .c (.int .i64 (k.1)))], [(0, .cells 26 [.c (.int .i64 (3)), .c (.int .i64 (3)), .c (.int .i64 (z)), .t (.rows m)]), (1, .rows 38 3 true ords), (2, .cells 26 [.c (.int .i64 (3)), .c (.int .i64 (3)), .c (.int .i64 (z)), .t (.rows (stt m 0))])], 3⟩ : St)) (fun k => k.1 ≤ 6 ∧ TTo m 0 j k.1 0 k.2) (fun k => 6 - k.1) (0, g) ⟨by simp only; omega, j2⟩ none (by refine ⟨rfl, rfl, ?_, ?_⟩ <;> ((repeat' (first | exact trivial | exact rfl | refine And.intro ?_ ?_)) <;> (try ((conv => whnf); first | refine vint ?_ | refine vboo ?_ | refine rint ?_ | refine rrow ?_ | skip)) <;> (try first | omega | (simp; done) | ((repeat rw [flts_closed _ (by assumption)]); exact vws_closed _ (by assumption))))) (fun k hk => ?_)
          obtain ⟨k, g⟩ := k
          obtain ⟨k1, k2⟩ := hk
          simp only at k1 k2
          dsimp only
          refine ⟨fun h3 => ?_, fun h3 => ?_⟩
          · have h3 : k < 6 := by have := of_decide_eq_true h3; omega
            have of2 := ords_ok (ords_at h3)
            have ra : R9 (agG 3 (stt m 0) (ords.getD j []) (ords.getD k [])) := r9.ag of1.1 of2.1
            conv => whnf
            refine ⟨k, rfl, h3, ?_⟩
            conv => whnf
            refine ACall.use (again_spec 3 3 (by omega) (by omega) z (stt m 0) r9.len r9.four (ords.getD j []) (ords.getD k []) (by omega) (by omega) of1.2 of2.2) ?_
            rw [of1.1, of2.1]
            conv => whnf
            refine ACall.use (FSpec.toldL (plays_spec 3 3 (by omega)) (x' := .t (.rows (playsL 6))) ⟨rfl, rfl⟩) ?_
            conv => whnf
            refine aloopI tyOk mx (fun u : Nat × Int => (⟨63, [(1, .ptr 0 0), (2, .c (.int .i64 (0))), (3, .own 1), (4, .c (.int .i64 (u.2))), (6, .ptr 2 0), (8, .sub 1 j), (11, .ptr 3 0), (26, .ag [.c (.int .i64 (3)), .c (.int .i64 (3)), .c (.int .i64 (z)), .t (.rows m), .c (.int .i64 (3)), .c (.int .i64 (3)), .c (.int .i64 (z)), .t (.rows (swG 3 3 m))]), (27, .c (.int .i64 ((0 : Nat)))), (30, .own 1), (31, .c (.int .i64 (6))), (32, .c (.int .i64 (j))), (36, .own 1), (37, .c (.int .i64 (6))), (38, .c (.int .i64 (k))), (46, .t (.rows (playsL 6))), (47, .c (.int .i64 ((playsL 6).length))), (48, .c (.int .i64 (u.1)))], [(0, .cells 26 [.c (.int .i64 (3)), .c (.int .i64 (3)), .c (.int .i64 (z)), .t (.rows m)]), (1, .rows 38 3 true ords), (2, .cells 26 [.c (.int .i64 (3)), .c (.int .i64 (3)), .c (.int .i64 (z)), .t (.rows (stt m 0))]), (3, .cells 26 [.c (.int .i64 (3)), .c (.int .i64 (3)), .c (.int .i64 (z)), .t (.rows (agG 3 (stt m 0) (ords.getD j []) (ords.getD k [])))])], 4⟩ : St)) (fun u => u.1 ≤ 64 ∧ TTo m 0 j k u.1 u.2) (fun u => 64 - u.1) (0, g) ⟨by simp only; omega, k2⟩ (some [(0, .row 0), (1, .row 1), (2, .row 2), (3, .row 4)]) (by (refine ⟨rfl, rfl, ?_, ?_⟩ <;> ((repeat' (first | exact trivial | exact rfl | refine And.intro ?_ ?_)) <;> (try ((conv => whnf); first | refine vint ?_ | refine vboo ?_ | refine rint ?_ | refine rrow ?_ | skip)) <;> (try first | omega | (simp; done) | ((repeat rw [flts_closed _ (by assumption)]); exact vws_closed _ (by assumption)))))) (fun u hu => ?_)
            obtain ⟨u, g⟩ := u
            obtain ⟨u1, u2⟩ := hu
            simp only at u1 u2
            dsimp only
            refine ⟨fun h4 => ?_, fun h4 => ?_⟩
            · have h4 : u < (playsL 6).length := ltT h4
              have h4' : u < 64 := by omega
              have hfl := fl_at h4'
              have rf : R9 (flG 3 3 (agG 3 (stt m 0) (ords.getD j []) (ords.getD k [])) ((playsL 6).getD u [])) := ra.fl _
              have gb := u2.bd
              conv => whnf
              refine ⟨u, rfl, h4, ?_⟩
              conv => whnf
              refine ACall.use (flipped_spec 3 3 (by omega) (by omega) z _ ra.len ra.four ((playsL 6).getD u []) hfl.1 hfl.2) ?_
              conv => whnf
              refine ACall.use (triple_spec z _ rf) ?_
              conv => whnf
              rw [nat_wrap (by omega)]
              refine ⟨(u + 1, if tvI m 0 j k u > g then tvI m 0 j k u else g), some [(0, .row 0), (1, .row 1), (2, .row 2), (3, .row 3)], ?_, ⟨by simp only; omega, u2.nextU h9 (by omega) h2 h3 h4' rfl⟩, by simp only; omega⟩
              (refine ⟨rfl, rfl, ?_, ?_⟩ <;> ((repeat' (first | exact trivial | exact rfl | refine And.intro ?_ ?_)) <;> (try ((conv => whnf); first | refine vint ?_ | refine vboo ?_ | refine rint ?_ | refine rrow ?_ | skip)) <;> (try first | omega | (simp; done) | ((repeat rw [flts_closed _ (by assumption)]); exact vws_closed _ (by assumption)))))
            · have h4 : ¬ u < (playsL 6).length := ltF h4
              obtain rfl : u = 64 := by omega
              conv => whnf
              rw [nat_wrap (by omega)]
              exact ⟨(k + 1, g), some [(0, .row 0), (1, .row 1), (2, .row 2)], (by (refine ⟨rfl, rfl, ?_, ?_⟩ <;> ((repeat' (first | exact trivial | exact rfl | refine And.intro ?_ ?_)) <;> (try ((conv => whnf); first | refine vint ?_ | refine vboo ?_ | refine rint ?_ | refine rrow ?_ | skip)) <;> (try first | omega | (simp; done) | ((repeat rw [flts_closed _ (by assumption)]); exact vws_closed _ (by assumption)))))), ⟨by simp only; omega, u2.nextJ⟩, by simp only; omega⟩
          · have h3 : ¬ k < 6 := by have := of_decide_eq_false h3; omega
            obtain rfl : k = 6 := by omega
            conv => whnf
            rw [nat_wrap (by omega)]
            exact ⟨(j + 1, g), none, (by refine ⟨rfl, rfl, ?_, ?_⟩ <;> ((repeat' (first | exact trivial | exact rfl | refine And.intro ?_ ?_)) <;> (try ((conv => whnf); first | refine vint ?_ | refine vboo ?_ | refine rint ?_ | refine rrow ?_ | skip)) <;> (try first | omega | (simp; done) | ((repeat rw [flts_closed _ (by assumption)]); exact vws_closed _ (by assumption))))), ⟨by simp only; omega, k2.nextI⟩, by simp only; omega⟩
        · have h2 : ¬ j < 6 := by have := of_decide_eq_false h2; omega
          obtain rfl : j = 6 := by omega
          conv => whnf
          exact ⟨(0 + 1, g), some [(0, .row 0), (1, .row 1)], (by (refine ⟨rfl, rfl, ?_, ?_⟩ <;> ((repeat' (first | exact trivial | exact rfl | refine And.intro ?_ ?_)) <;> (try ((conv => whnf); first | refine vint ?_ | refine vboo ?_ | refine rint ?_ | refine rrow ?_ | skip)) <;> (try first | omega | (simp; done) | ((repeat rw [flts_closed _ (by assumption)]); exact vws_closed _ (by assumption)))))), ⟨by simp only; omega, j2.nextS⟩, by simp only; omega⟩
      · conv => whnf
        refine ⟨1, rfl, by omega, ?_⟩
        conv => whnf
        have r9 : R9 (stt m 1) := h9.st 1
        refine aloopI tyOk mx (fun j : Nat × Int => (⟨63, [(1, .ptr 0 0), (2, .c (.int .i64 (0))), (3, .own 1), (4, .c (.int .i64 (j.2))), (6, .ptr 2 0), (26, .ag [.c (.int .i64 (3)), .c (.int .i64 (3)), .c (.int .i64 (z)), .t (.rows m), .c (.int .i64 (3)), .c (.int .i64 (3)), .c (.int .i64 (z)), .t (.rows (swG 3 3 m))]), (27, .c (.int .i64 ((1 : Nat)))), (30, .own 1), (31, .c (.int .i64 (6))), (32, .c (.int .i64 (j.1)))], [(0, .cells 26 [.c (.int .i64 (3)), .c (.int .i64 (3)), .c (.int .i64 (z)), .t (.rows m)]), (1, .rows 38 3 true ords), (2, .cells 26 [.c (.int .i64 (3)), .c (.int .i64 (3)), .c (.int .i64 (z)), .t (.rows (stt m 1))])], 3⟩ : St)) (fun j => j.1 ≤ 6 ∧ TTo m 1 j.1 0 0 j.2) (fun j => 6 - j.1) (0, g) ⟨by simp only; omega, i2⟩ none (by refine ⟨rfl, rfl, ?_, ?_⟩ <;> ((repeat' (first | exact trivial | exact rfl | refine And.intro ?_ ?_)) <;> (try ((conv => whnf); first | refine vint ?_ | refine vboo ?_ | refine rint ?_ | refine rrow ?_ | skip)) <;> (try first | omega | (simp; done) | ((repeat rw [flts_closed _ (by assumption)]); exact vws_closed _ (by assumption))))) (fun j hj => ?_)
        obtain ⟨j, g⟩ := j
        obtain ⟨j1, j2⟩ := hj
        simp only at j1 j2
        dsimp only
        refine ⟨fun h2 => ?_, fun h2 => ?_⟩
        · have h2 : j < 6 := by have := of_decide_eq_true h2; omega
          have of1 := ords_ok (ords_at h2)
          conv => whnf
          refine ⟨j, rfl, h2, ?_⟩
          conv => whnf
          refine aloopI tyOk mx (fun k : Nat × Int => (⟨63, [(1, .ptr 0 0), (2, .c (.int .i64 (0))), (3, .own 1), (4, .c (.int .i64 (k.2))), (6, .ptr 2 0), (8, .sub 1 j), (26, .ag [.c (.int .i64 (3)), .c (.int .i64 (3)), .c (.int .i64 (z)), .t (.rows m), .c (.int .i64 (3)), .c (.int .i64 (3)), .c (.int .i64 (z)), .t (.rows (swG 3 3 m))]), (27, .c (.int .i64 ((1 : Nat)))), (30, .own 1), (31, .c (.int .i64 (6))), (32, .c (.int .i64 (j))), (36, .own 1), (37, .c (.int .i64 (6))), (38, .c (.int .i64 (k.1)))], [(0, .cells 26 [.c (.int .i64 (3)), .c (.int .i64 (3)), .c (.int .i64 (z)), .t (.rows m)]), (1, .rows 38 3 true ords), (2, .cells 26 [.c (.int .i64 (3)), .c (.int .i64 (3)), .c (.int .i64 (z)), .t (.rows (stt m 1))])], 3⟩ : St)) (fun k => k.1 ≤ 6 ∧ TTo m 1 j k.1 0 k.2) (fun k => 6 - k.1) (0, g) ⟨by simp only; omega, j2⟩ none (by refine ⟨rfl, rfl, ?_, ?_⟩ <;> ((repeat' (first | exact trivial | exact rfl | refine And.intro ?_ ?_)) <;> (try ((conv => whnf); first | refine vint ?_ | refine vboo ?_ | refine rint ?_ | refine rrow ?_ | skip)) <;> (try first | omega | (simp; done) | ((repeat rw [flts_closed _ (by assumption)]); exact vws_closed _ (by assumption))))) (fun k hk => ?_)
          obtain ⟨k, g⟩ := k
          obtain ⟨k1, k2⟩ := hk
          simp only at k1 k2
          dsimp only
          refine ⟨fun h3 => ?_, fun h3 => ?_⟩
          · have h3 : k < 6 := by have := of_decide_eq_true h3; omega
            have of2 := ords_ok (ords_at h3)
            have ra : R9 (agG 3 (stt m 1) (ords.getD j []) (ords.getD k [])) := r9.ag of1.1 of2.1
            conv => whnf
            refine ⟨k, rfl, h3, ?_⟩
            conv => whnf
            refine ACall.use (again_spec 3 3 (by omega) (by omega) z (stt m 1) r9.len r9.four (ords.getD j []) (ords.getD k []) (by omega) (by omega) of1.2 of2.2) ?_
            rw [of1.1, of2.1]
            conv => whnf
            refine ACall.use (FSpec.toldL (plays_spec 3 3 (by omega)) (x' := .t (.rows (playsL 6))) ⟨rfl, rfl⟩) ?_
            conv => whnf
            refine aloopI tyOk mx (fun u : Nat × Int => (⟨63, [(1, .ptr 0 0), (2, .c (.int .i64 (0))), (3, .own 1), (4, .c (.int .i64 (u.2))), (6, .ptr 2 0), (8, .sub 1 j), (11, .ptr 3 0), (26, .ag [.c (.int .i64 (3)), .c (.int .i64 (3)), .c (.int .i64 (z)), .t (.rows m), .c (.int .i64 (3)), .c (.int .i64 (3)), .c (.int .i64 (z)), .t (.rows (swG 3 3 m))]), (27, .c (.int .i64 ((1 : Nat)))), (30, .own 1), (31, .c (.int .i64 (6))), (32, .c (.int .i64 (j))), (36, .own 1), (37, .c (.int .i64 (6))), (38, .c (.int .i64 (k))), (46, .t (.rows (playsL 6))), (47, .c (.int .i64 ((playsL 6).length))), (48, .c (.int .i64 (u.1)))], [(0, .cells 26 [.c (.int .i64 (3)), .c (.int .i64 (3)), .c (.int .i64 (z)), .t (.rows m)]), (1, .rows 38 3 true ords), (2, .cells 26 [.c (.int .i64 (3)), .c (.int .i64 (3)), .c (.int .i64 (z)), .t (.rows (stt m 1))]), (3, .cells 26 [.c (.int .i64 (3)), .c (.int .i64 (3)), .c (.int .i64 (z)), .t (.rows (agG 3 (stt m 1) (ords.getD j []) (ords.getD k [])))])], 4⟩ : St)) (fun u => u.1 ≤ 64 ∧ TTo m 1 j k u.1 u.2) (fun u => 64 - u.1) (0, g) ⟨by simp only; omega, k2⟩ (some [(0, .row 0), (1, .row 1), (2, .row 2), (3, .row 4)]) (by (refine ⟨rfl, rfl, ?_, ?_⟩ <;> ((repeat' (first | exact trivial | exact rfl | refine And.intro ?_ ?_)) <;> (try ((conv => whnf); first | refine vint ?_ | refine vboo ?_ | refine rint ?_ | refine rrow ?_ | skip)) <;> (try first | omega | (simp; done) | ((repeat rw [flts_closed _ (by assumption)]); exact vws_closed _ (by assumption)))))) (fun u hu => ?_)
            obtain ⟨u, g⟩ := u
            obtain ⟨u1, u2⟩ := hu
            simp only at u1 u2
            dsimp only
            refine ⟨fun h4 => ?_, fun h4 => ?_⟩
            · have h4 : u < (playsL 6).length := ltT h4
              have h4' : u < 64 := by omega
              have hfl := fl_at h4'
              have rf : R9 (flG 3 3 (agG 3 (stt m 1) (ords.getD j []) (ords.getD k [])) ((playsL 6).getD u [])) := ra.fl _
              have gb := u2.bd
              conv => whnf
              refine ⟨u, rfl, h4, ?_⟩
              conv => whnf
              refine ACall.use (flipped_spec 3 3 (by omega) (by omega) z _ ra.len ra.four ((playsL 6).getD u []) hfl.1 hfl.2) ?_
              conv => whnf
              refine ACall.use (triple_spec z _ rf) ?_
              conv => whnf
              rw [nat_wrap (by omega)]
              refine ⟨(u + 1, if tvI m 1 j k u > g then tvI m 1 j k u else g), some [(0, .row 0), (1, .row 1), (2, .row 2), (3, .row 3)], ?_, ⟨by simp only; omega, u2.nextU h9 (by omega) h2 h3 h4' rfl⟩, by simp only; omega⟩
              (refine ⟨rfl, rfl, ?_, ?_⟩ <;> ((repeat' (first | exact trivial | exact rfl | refine And.intro ?_ ?_)) <;> (try ((conv => whnf); first | refine vint ?_ | refine vboo ?_ | refine rint ?_ | refine rrow ?_ | skip)) <;> (try first | omega | (simp; done) | ((repeat rw [flts_closed _ (by assumption)]); exact vws_closed _ (by assumption)))))
            · have h4 : ¬ u < (playsL 6).length := ltF h4
              obtain rfl : u = 64 := by omega
              conv => whnf
              rw [nat_wrap (by omega)]
              exact ⟨(k + 1, g), some [(0, .row 0), (1, .row 1), (2, .row 2)], (by (refine ⟨rfl, rfl, ?_, ?_⟩ <;> ((repeat' (first | exact trivial | exact rfl | refine And.intro ?_ ?_)) <;> (try ((conv => whnf); first | refine vint ?_ | refine vboo ?_ | refine rint ?_ | refine rrow ?_ | skip)) <;> (try first | omega | (simp; done) | ((repeat rw [flts_closed _ (by assumption)]); exact vws_closed _ (by assumption)))))), ⟨by simp only; omega, u2.nextJ⟩, by simp only; omega⟩
          · have h3 : ¬ k < 6 := by have := of_decide_eq_false h3; omega
            obtain rfl : k = 6 := by omega
            conv => whnf
            rw [nat_wrap (by omega)]
            exact ⟨(j + 1, g), none, (by refine ⟨rfl, rfl, ?_, ?_⟩ <;> ((repeat' (first | exact trivial | exact rfl | refine And.intro ?_ ?_)) <;> (try ((conv => whnf); first | refine vint ?_ | refine vboo ?_ | refine rint ?_ | refine rrow ?_ | skip)) <;> (try first | omega | (simp; done) | ((repeat rw [flts_closed _ (by assumption)]); exact vws_closed _ (by assumption))))), ⟨by simp only; omega, k2.nextI⟩, by simp only; omega⟩
        · have h2 : ¬ j < 6 := by have := of_decide_eq_false h2; omega
          obtain rfl : j = 6 := by omega
          conv => whnf
          exact ⟨(1 + 1, g), some [(0, .row 0), (1, .row 1)], (by (refine ⟨rfl, rfl, ?_, ?_⟩ <;> ((repeat' (first | exact trivial | exact rfl | refine And.intro ?_ ?_)) <;> (try ((conv => whnf); first | refine vint ?_ | refine vboo ?_ | refine rint ?_ | refine rrow ?_ | skip)) <;> (try first | omega | (simp; done) | ((repeat rw [flts_closed _ (by assumption)]); exact vws_closed _ (by assumption)))))), ⟨by simp only; omega, j2.nextS⟩, by simp only; omega⟩
    · have h : ¬ i < 2 := by have := of_decide_eq_false h; omega
      obtain rfl : i = 2 := by omega
      conv => whnf
      exact ⟨rfl, g, i2.fin, rfl⟩

theorem isTriple_spec (nx ny : Nat) (z : Int) (m : List (List Int)) (hg : goodB nx ny z m = true) (km : SzM m) : FSpec Tryz.prog 67 [.ag [.c (.int .i64 (nx)), .c (.int .i64 (ny)), .c (.int .i64 (z)), .t (.rows m)]] (ex (.c (.bool (quietF nx ny m && (decide ((nx : Int) = 3) && decide ((ny : Int) = 3))))) []) := by
  have eq : quietB nx ny z m = quietF nx ny m := by rw [quietB, hg, Bool.true_and, Int.toNat_natCast, Int.toNat_natCast]
  refine fspec tyOk mx Tryz.func67 rfl (by kernel_rfl) rfl ?_
  conv => whnf
  refine ACall.use (isQuiet_spec nx ny z m km) ?_
  rw [eq]
  conv => whnf
  refine ⟨fun h => ?_, fun h => ?_⟩
  · conv => whnf
    refine ⟨fun h2 => ?_, fun h2 => ?_⟩
    · conv => whnf
      refine ⟨?_, rfl⟩
      have h2 : (nx : Int) = 3 := by simpa using h2
      rw [h, decide_eq_true h2]
      rfl
    · have h2 : ¬ (nx : Int) = 3 := by simpa using h2
      conv => whnf
      refine ⟨?_, rfl⟩
      rw [h, decide_eq_false h2]
      rfl
  · (repeat (conv => whnf); (first | refine ⟨fun h => absurd h (by decide), fun _ => ?_⟩ | refine ⟨fun _ => ?_, fun h => absurd h (by decide)⟩)); conv => whnf
    refine ⟨?_, rfl⟩
    rw [h]; rfl
theorem isLocal_spec (nx ny : Nat) (z : Int) (m : List (List Int)) (hg : goodB nx ny z m = true) (km : SzM m) : FSpec Tryz.prog 63 [.ag [.c (.int .i64 (nx)), .c (.int .i64 (ny)), .c (.int .i64 (z)), .t (.rows m)]] (ex (.c (.bool (locB nx ny z m))) []) := by
  have hg' := hg
  obtain ⟨a, b, ea, eb, g1, g2, g3, g4, g5, g6, g7, g8, g9⟩ := goodB_spec hg'
  obtain rfl : nx = a := by omega
  obtain rfl : ny = b := by omega
  have h4 : ∀ r, r ∈ m → r.length = 4 := fun r hr => (g9 r hr).1
  have hB : AgB m := ag_bd g6 g9
  have eq : quietB nx ny z m = quietF nx ny m := by rw [quietB, hg, Bool.true_and, Int.toNat_natCast, Int.toNat_natCast]
  have e2 : IntKind.i64.wrap (2 * z) = 2 * z := w64 (by omega) (by omega)
  refine fspec tyOk mx Tryz.func63 rfl (by kernel_rfl) rfl ?_
  conv => whnf
  refine ACall.use' (greatest_spec nx ny z m g2 g4 g7 h4 hB) ?_
  rintro v h ⟨rfl, g, p0, p1, q0, q1, kk, t, hgs, hg4, rfl⟩
  have hle := hgs.le (z := 2 * z) (by omega)
  conv => whnf
  refine ACall.use (isQuiet_spec nx ny z m km) ?_
  rw [eq]
  conv => whnf
  refine ⟨fun h => ?_, fun h => ?_⟩
  · conv => whnf
    rw [e2]
    refine ⟨fun h2 => ?_, fun h2 => ?_⟩
    · have h2 : g ≤ 2 * z := of_decide_eq_true h2
      conv => whnf
      refine ACall.use (isTriple_spec nx ny z m hg km) ?_
      rw [h, Bool.true_and]
      conv => whnf
      refine ⟨fun h3 => ?_, fun h3 => ?_⟩
      · have h3 : (nx : Int) = 3 ∧ (ny : Int) = 3 := by simpa using h3
        obtain rfl : nx = 3 := by omega
        obtain rfl : ny = 3 := by omega
        have h9 : R9 m := ⟨by omega, h4, Bd.of fun r hr v hv => by have := (g9 r hr).2.1 v hv; omega⟩
        conv => whnf
        refine ACall.use' (greatestTriple_spec z m h9) ?_
        rintro v h ⟨rfl, gt, hgt, rfl⟩
        have hl2 := hgt.le (z := 0)
        conv => whnf
        refine ⟨?_, rfl⟩
        rw [locB_of (b := decide (gt ≤ 0))]
        rw [decide_eq_true_iff]
        exact ⟨fun hz => ⟨h, hle.1 h2, fun _ _ => hl2.1 hz⟩, fun hl => hl2.2 (hl.trip rfl rfl)⟩
      · have h3 : ¬ (nx : Int) = 3 ∨ ¬ (ny : Int) = 3 := by simpa using h3
        have h3 : ¬ ((nx : Int) = 3 ∧ (ny : Int) = 3) := by omega
        conv => whnf
        refine ⟨?_, rfl⟩
        rw [locB_of (b := true)]
        exact ⟨fun _ => ⟨h, hle.1 h2, fun ex ey => absurd ⟨by omega, by omega⟩ h3⟩, fun _ => rfl⟩
    · have h2 : ¬ g ≤ 2 * z := of_decide_eq_false h2
      (repeat (conv => whnf); (first | refine ⟨fun h => absurd h (by decide), fun _ => ?_⟩ | refine ⟨fun _ => ?_, fun h => absurd h (by decide)⟩)); conv => whnf
      refine ⟨?_, rfl⟩
      rw [locB_of (b := false)]
      exact ⟨fun hf => (by cases hf), fun hl => absurd (hle.2 hl.sums) h2⟩
  · (repeat (conv => whnf); (first | refine ⟨fun h => absurd h (by decide), fun _ => ?_⟩ | refine ⟨fun _ => ?_, fun h => absurd h (by decide)⟩)); conv => whnf
    refine ⟨?_, rfl⟩
    rw [locB_of (b := false)]
    exact ⟨fun hf => (by cases hf), fun hl => by rw [hl.quiet] at h; cases h⟩
noncomputable def lcV (x y z : Int) (m : List (List Int)) : Bool := goodB x y z m && locB x.toNat y.toNat z m
theorem IsLocal_i (x y z : Int) (m : List (List Int)) (km : SzM m) : FSpec Tryz.prog 8 [.ag [.c (.int .i64 (x)), .c (.int .i64 (y)), .c (.int .i64 (z)), .t (.rows m)]] (ex (.tu [.c (.bool (lcV x y z m)), .c (.bool (goodB x y z m))]) []) := by
  refine fspec tyOk mx Tryz.func8 rfl (by kernel_rfl) rfl ?_
  conv => whnf
  refine ACall.use (IsBox_spec x y z m km) ?_
  conv => whnf
  refine ⟨fun h => ?_, fun h => ?_⟩
  · have h : goodB x y z m = false := by simpa using h
    conv => whnf
    exact ⟨by rw [lcV, h]; rfl, rfl⟩
  · have h : goodB x y z m = true := by simpa using h
    have h' := h
    obtain ⟨nx, ny, rfl, rfl, _⟩ := goodB_spec h'
    conv => whnf
    refine ACall.use (isLocal_spec nx ny z m h km) ?_
    conv => whnf
    exact ⟨by rw [lcV, h, Bool.true_and, Int.toNat_natCast, Int.toNat_natCast], rfl⟩
end Go.Proofs.YtkomndcehdneaaaGreat.L
/- Extreme boxes, in order: reference and program. -/
namespace Go.Proofs.YtkomndcehdneaaaGreat
open Go.Aw
set_option maxRecDepth 100000
set_option maxHeartbeats 4000000

def exRow (i : Nat) : List (List Int) := if i < 16 then pbM ((playsL 4).getD i []) 2 else equalM ((i : Int) - 16)
def exL (n : Nat) : List (List Int × List (List Int)) := (List.range n).map fun i => ([2, 2, 2], exRow i)
theorem exL_len (n : Nat) : (exL n).length = n := by simp [exL]
theorem exL_get {n i : Nat} (h : i < n) : (exL n).getD i ([], []) = ([2, 2, 2], exRow i) := range_getD h
theorem exL_succ (n : Nat) : exL n ++ [([2, 2, 2], exRow n)] = exL (n + 1) := map_range_succ _ n
theorem exRow_len (i : Nat) : (exRow i).length = 4 := by
  unfold exRow
  split
  · exact boxRows_len _ 2 2
  · exact boxRows_len _ 2 2
theorem exRow_rows (i : Nat) : ∀ r, r ∈ exRow i → r.length = 4 := by
  have key : ∀ f : Nat → Nat → Nat → Nat → Int, ∀ q, q ∈ boxRows f 2 2 → q.length = 4 := fun f q hq => by
    obtain ⟨i, _, hq⟩ := List.mem_flatMap.1 hq
    obtain ⟨j, _, rfl⟩ := List.mem_map.1 hq
    simp [boxRow]
  unfold exRow
  split
  · exact key _
  · exact key _
theorem play4 {i : Nat} (h : i < 16) : ((playsL 4).getD i []).length = 4 ∧ ∀ v, v ∈ (playsL 4).getD i [] → 0 ≤ v ∧ v ≤ 1 := playsL_row (by omega) (by rw [playsL_len]; simpa using h)

theorem extreme_spec (i : Nat) (hi : i < 24) : FSpec Tryz.prog 98 [.c (.int .i64 (i))] (ex (.ag [.c (.int .i64 (2)), .c (.int .i64 (2)), .c (.int .i64 (2)), .own 0]) [(0, .rows 38 3 true (exRow i))]) := by
  have hpl : (playsL 4).length = 16 := playsL_len 4
  refine fspec tyOk mx Tryz.func98 rfl (by kernel_rfl) rfl ?_
  conv => whnf
  refine ⟨fun h => ?_, fun h => ?_⟩
  · have h : i < 16 := by have := of_decide_eq_true h; omega
    have e : exRow i = pbM ((playsL 4).getD i []) 2 := by rw [exRow, if_pos h]
    conv => whnf
    refine ACall.use (plays_spec 2 2 (by omega)) ?_
    conv => whnf
    refine ⟨i, rfl, by show i < (playsL 4).length; omega, ?_⟩
    conv => whnf
    refine ACall.use (playBox_spec ((playsL 4).getD i []) (play4 h).1 2) ?_
    conv => whnf
    exact ⟨rfl, by rw [e]⟩
  · have h : ¬ i < 16 := by have := of_decide_eq_false h; omega
    have e : exRow i = equalM ((i : Int) - 16) := by rw [exRow, if_neg h]
    have e2 : IntKind.i64.wrap ((i : Int) - 16) = (i : Int) - 16 := w64 (by omega) (by omega)
    conv => whnf
    refine ACall.use (equalSum_spec _) ?_
    conv => whnf
    exact ⟨rfl, by rw [e, e2]⟩

theorem l6Extremes_own : FSpec Tryz.prog 95 [] (ex (.own 0) [(0, .recs 26 3 (exL 24))]) := by
  have hpl : (playsL 4).length = 16 := playsL_len 4
  refine fspec tyOk mx Tryz.func95 rfl (by kernel_rfl) rfl ?_
  conv => whnf
  refine ACall.use ((l2Plays_spec 2 2 (by omega)).told (x' := .t (.rows (playsL 4))) ⟨rfl, rfl⟩) ?_
  conv => whnf
  refine aloopI tyOk mx (fun i : Nat => (⟨31, [(1, .own 0), (2, .t (.rows (playsL 4))), (3, .c (.int .i64 (i)))], [(0, .recs 26 3 (exL i))], 1⟩ : St)) (fun i => i ≤ 16) (fun i => 16 - i) 0 (Nat.zero_le _) none (by refine ⟨rfl, rfl, ?_, ?_⟩ <;> ((repeat' (first | exact trivial | exact rfl | refine And.intro ?_ ?_)) <;> (try ((conv => whnf); first | refine vint ?_ | refine vboo ?_ | refine rint ?_ | refine rrow ?_ | skip)) <;> (try first | omega | (simp; done) | ((repeat rw [flts_closed _ (by assumption)]); exact vws_closed _ (by assumption))))) (fun i hi => ?_)
  have hl := exL_len i
  refine ⟨fun h => ?_, fun h => ?_⟩
  · have h : i < 16 := by have := of_decide_eq_true h; rw [hpl] at this; omega
    have e : exRow i = pbM ((playsL 4).getD i []) 2 := by rw [exRow, if_pos h]
    conv => whnf
    refine ⟨i, rfl, by omega, ?_⟩
    conv => whnf
    refine ACall.use ((l2PlayBox_spec ((playsL 4).getD i []) (play4 h).1 (play4 h).2 2).told (x' := .ag [.c (.int .i64 (2)), .c (.int .i64 (2)), .c (.int .i64 (2)), .t (.rows (pbM ((playsL 4).getD i []) 2))]) ⟨rfl, rfl, rfl, ⟨rfl, rfl⟩, trivial⟩) ?_
    conv => whnf
    refine ⟨by rw [hl]; simp [room]; omega, ?_⟩
    conv => whnf
    rw [nat_wrap (by omega)]
    refine ⟨i + 1, none, ?_, by omega, by omega⟩
    refine ⟨rfl, rfl, ⟨⟨rfl, rfl⟩, rfl, rfl, trivial⟩, rfl, ?_, trivial⟩
    show ARow.recs _ _ _ = ARow.recs _ _ _
    rw [← exL_succ, e]
  · have h : ¬ i < 16 := by have := of_decide_eq_false h; rw [hpl] at this; omega
    obtain rfl : i = 16 := by omega
    conv => whnf
    refine aloopI tyOk mx (fun k : Nat => (⟨31, [(1, .own 0), (4, .c (.int .i64 (k)))], [(0, .recs 26 3 (exL (16 + k)))], 1⟩ : St)) (fun k => k ≤ 8) (fun k => 8 - k) 0 (Nat.zero_le _) none (by refine ⟨rfl, rfl, ?_, ?_⟩ <;> ((repeat' (first | exact trivial | exact rfl | refine And.intro ?_ ?_)) <;> (try ((conv => whnf); first | refine vint ?_ | refine vboo ?_ | refine rint ?_ | refine rrow ?_ | skip)) <;> (try first | omega | (simp; done) | ((repeat rw [flts_closed _ (by assumption)]); exact vws_closed _ (by assumption))))) (fun k hk => ?_)
    have hl := exL_len (16 + k)
    refine ⟨fun h => ?_, fun h => ?_⟩
    · have h : k < 8 := by have := of_decide_eq_true h; omega
      have e : exRow (16 + k) = equalM k := by rw [exRow, if_neg (by omega)]; congr 1; omega
      conv => whnf
      refine ACall.use ((l6Sum_spec k h).told (x' := .ag [.c (.int .i64 (2)), .c (.int .i64 (2)), .c (.int .i64 (2)), .t (.rows (equalM k))]) ⟨rfl, rfl, rfl, ⟨rfl, rfl⟩, trivial⟩) ?_
      conv => whnf
      refine ⟨by rw [hl]; simp [room]; omega, ?_⟩
      conv => whnf
      rw [nat_wrap (by omega)]
      refine ⟨k + 1, none, ?_, by omega, by omega⟩
      refine ⟨rfl, rfl, ⟨⟨rfl, rfl⟩, rfl, trivial⟩, rfl, ?_, trivial⟩
      show ARow.recs _ _ _ = ARow.recs _ _ _
      rw [show 16 + (k + 1) = 16 + k + 1 by omega, ← exL_succ, e]
    · have h : ¬ k < 8 := by have := of_decide_eq_false h; omega
      obtain rfl : k = 8 := by omega
      conv => whnf
      exact ⟨rfl, rfl⟩
theorem l6Extremes_spec : FSpec Tryz.prog 95 [] (ex (.t (.recs 3 (exL 24))) []) := l6Extremes_own.told ⟨rfl, rfl⟩
end Go.Proofs.YtkomndcehdneaaaGreat
/- Functionals of two questions each; the least and the greatest worth of extreme boxes: reference and program. -/
namespace Go.Aw
theorem mn_eq (a b : Int) : (if b < a then b else a) = min a b := by split <;> omega
theorem mx_eq (a b : Int) : (if b > a then b else a) = max a b := by split <;> omega
end Go.Aw
namespace Go.Proofs.YtkomndcehdneaaaGreat
open Go.Aw
set_option maxRecDepth 100000
set_option maxHeartbeats 4000000

theorem r1Most_spec (a b : Int) : FSpec Tryz.prog 100 [.c (.int .i64 (a)), .c (.int .i64 (b))] (ex (.c (.int .i64 (max a b))) []) := by
  refine fspec tyOk mx Tryz.func100 rfl (by kernel_rfl) rfl ?_
  conv => whnf
  refine ⟨fun h => ?_, fun h => ?_⟩
  · have h := of_decide_eq_true h
    conv => whnf
    refine ⟨?_, rfl⟩
    rw [Int.max_eq_left (by omega)]
  · have h := of_decide_eq_false h
    conv => whnf
    refine ⟨?_, rfl⟩
    rw [Int.max_eq_right (by omega)]
theorem r1Least_spec (a b : Int) : FSpec Tryz.prog 99 [.c (.int .i64 (a)), .c (.int .i64 (b))] (ex (.c (.int .i64 (min a b))) []) := by
  refine fspec tyOk mx Tryz.func99 rfl (by kernel_rfl) rfl ?_
  conv => whnf
  refine ⟨fun h => ?_, fun h => ?_⟩
  · have h := of_decide_eq_true h
    conv => whnf
    refine ⟨?_, rfl⟩
    rw [Int.min_eq_left (by omega)]
  · have h := of_decide_eq_false h
    conv => whnf
    refine ⟨?_, rfl⟩
    rw [Int.min_eq_right (by omega)]

def fnRow (r : List Int) : Bool := decide (r.length = 4) && rowIn r (-99) 99
def fnB (f : List (List Int)) : Bool := decide (f.length = 4) && f.all fnRow
theorem fnB_spec {f : List (List Int)} (h : fnB f = true) : f.length = 4 ∧ (∀ r, r ∈ f → r.length = 4) ∧ ∀ r, r ∈ f → ∀ v, v ∈ r → -99 ≤ v ∧ v ≤ 99 := by
  simp only [fnB, fnRow, Bool.and_eq_true, decide_eq_true_eq, List.all_eq_true, rowIn_iff] at h
  exact ⟨h.1, fun r hr => (h.2 r hr).1, fun r hr => (h.2 r hr).2⟩

theorem l2Functional_spec (f : List (List Int)) (kf : SzM f) : FSpec Tryz.prog 81 [.c (.int .i64 (2)), .c (.int .i64 (2)), .t (.rows f)] (ex (.c (.bool (fnB f))) []) := by
  obtain ⟨k1, k2, k3⟩ := kf.all
  refine fspec tyOk mx Tryz.func81 rfl (by kernel_rfl) rfl ?_
  conv => whnf
  refine ACall.use (l2Sizes_spec 2 2) ?_
  conv => whnf
  first | refine ⟨fun h => absurd h (by decide), fun _ => ?_⟩ | refine ⟨fun _ => ?_, fun h => absurd h (by decide)⟩
  conv => whnf
  refine ⟨fun h => ?_, fun h => ?_⟩
  · have h : ¬ f.length = 4 := by
      intro e
      rw [e] at h
      exact absurd h (by decide)
    conv => whnf
    refine ⟨?_, rfl⟩
    rw [fnB, decide_eq_false h, Bool.false_and]
  · have h0 : f.length = 4 := by
      have h : ((f.length : Int) != IntKind.i64.wrap (2 * 2)) = false := h
      rw [w64 (by omega) (by omega)] at h
      have : (f.length : Int) = 2 * 2 := by simpa using h
      omega
    clear h
    conv => whnf
    refine aloopI tyOk mx (fun i : Nat => (⟨51, [(2, .t (.rows f)), (7, .c (.int .i64 (i)))], [], 0⟩ : St)) (fun i => i ≤ f.length ∧ (f.take i).all fnRow = true) (fun i => f.length - i) 0 ⟨Nat.zero_le _, rfl⟩ none (by refine ⟨rfl, rfl, ?_, ?_⟩ <;> ((repeat' (first | exact trivial | exact rfl | refine And.intro ?_ ?_)) <;> (try ((conv => whnf); first | refine vint ?_ | refine vboo ?_ | refine rint ?_ | refine rrow ?_ | skip)) <;> (try first | omega | (simp; done) | ((repeat rw [flts_closed _ (by assumption)]); exact vws_closed _ (by assumption))))) (fun i hi => ?_)
    obtain ⟨hi, hp⟩ := hi
    refine ⟨fun h => ?_, fun h => ?_⟩
    · have h : i < f.length := by have := ltT h; omega
      have hri := k2 _ (getD_mem (d := []) h)
      conv => whnf
      refine aloopI tyOk mx (fun n : Nat => (⟨51, [(2, .t (.rows f)), (7, .c (.int .i64 (i))), (8, .c (.int .i64 (n)))], [], 0⟩ : St)) (fun n => n ≤ (f.getD i []).length ∧ ((f.getD i []).take n).all (fun x => inR x (-99) 99) = true) (fun n => (f.getD i []).length - n) 0 ⟨Nat.zero_le _, rfl⟩ none (by refine ⟨rfl, rfl, ?_, ?_⟩ <;> ((repeat' (first | exact trivial | exact rfl | refine And.intro ?_ ?_)) <;> (try ((conv => whnf); first | refine vint ?_ | refine vboo ?_ | refine rint ?_ | refine rrow ?_ | skip)) <;> (try first | omega | (simp; done) | ((repeat rw [flts_closed _ (by assumption)]); exact vws_closed _ (by assumption))))) (fun n hn => ?_)
      obtain ⟨hn, hq⟩ := hn
      refine ⟨i, rfl, h, ?_⟩
      conv => whnf
      refine ⟨fun h2 => ?_, fun h2 => ?_⟩
      · have h2 : n < (f.getD i []).length := by have := ltT h2; omega
        conv => whnf
        refine ⟨i, rfl, h, n, rfl, h2, ?_⟩
        conv => whnf
        refine ACall.use (l1In_spec _ _ _) ?_
        conv => whnf
        refine ⟨fun h3 => ?_, fun h3 => ?_⟩
        · have h3 : inR ((f.getD i []).getD n 0) (-99) 99 = false := by simpa using h3
          conv => whnf
          refine ⟨?_, rfl⟩
          rw [fnB, all_false (d := []) h (by rw [fnRow, rowIn, all_false (d := 0) h2 h3, Bool.and_false]), Bool.and_false]
        · have h3 : inR ((f.getD i []).getD n 0) (-99) 99 = true := by simpa using h3
          conv => whnf
          rw [nat_wrap (by omega)]
          exact ⟨n + 1, none, (by refine ⟨rfl, rfl, ?_, ?_⟩ <;> ((repeat' (first | exact trivial | exact rfl | refine And.intro ?_ ?_)) <;> (try ((conv => whnf); first | refine vint ?_ | refine vboo ?_ | refine rint ?_ | refine rrow ?_ | skip)) <;> (try first | omega | (simp; done) | ((repeat rw [flts_closed _ (by assumption)]); exact vws_closed _ (by assumption))))), ⟨by omega, all_take_succ (d := 0) h2 hq h3⟩, by omega⟩
      · have h2 : ¬ n < (f.getD i []).length := by have := ltF h2; omega
        have hrow : rowIn (f.getD i []) (-99) 99 = true := all_end h2 hq
        conv => whnf
        refine ⟨i, rfl, h, ?_⟩
        conv => whnf
        refine ⟨fun h3 => ?_, fun h3 => ?_⟩
        · have h3 : ¬ (f.getD i []).length = 4 := by
            intro e; rw [e] at h3; exact absurd h3 (by decide)
          conv => whnf
          refine ⟨?_, rfl⟩
          rw [fnB, all_false (d := []) h (by rw [fnRow, decide_eq_false h3, Bool.false_and]), Bool.and_false]
        · have h3 : (f.getD i []).length = 4 := by
            have : ((f.getD i []).length : Int) = 4 := by simpa using h3
            omega
          conv => whnf
          rw [nat_wrap (by omega)]
          exact ⟨i + 1, none, (by refine ⟨rfl, rfl, ?_, ?_⟩ <;> ((repeat' (first | exact trivial | exact rfl | refine And.intro ?_ ?_)) <;> (try ((conv => whnf); first | refine vint ?_ | refine vboo ?_ | refine rint ?_ | refine rrow ?_ | skip)) <;> (try first | omega | (simp; done) | ((repeat rw [flts_closed _ (by assumption)]); exact vws_closed _ (by assumption))))), ⟨by omega, all_take_succ (d := []) h hp (by rw [fnRow, hrow, decide_eq_true h3]; rfl)⟩, by omega⟩
    · have h : ¬ i < f.length := by have := ltF h; omega
      conv => whnf
      refine ⟨?_, rfl⟩
      rw [fnB, decide_eq_true h0, all_end h hp]; rfl

theorem isFunctional_spec (f : List (List Int)) (kf : SzM f) : FSpec Tryz.prog 78 [.c (.int .i64 (2)), .c (.int .i64 (2)), .t (.rows f)] (ex (.c (.bool (fnB f))) []) := by
  obtain ⟨k1, k2, k3⟩ := kf.all
  refine fspec tyOk mx Tryz.func78 rfl (by kernel_rfl) rfl ?_
  conv => whnf
  refine aloopI tyOk mx (fun i : Nat => (⟨35, [(0, .c (.int .i64 (2))), (1, .c (.int .i64 (2))), (2, .t (.rows f)), (9, .t (.rows f)), (10, .c (.int .i64 (f.length))), (11, .c (.int .i64 (i)))], [], 0⟩ : St)) (fun i => i ≤ f.length ∧ (f.take i).all fnRow = true) (fun i => f.length - i) 0 ⟨Nat.zero_le _, rfl⟩ none (by refine ⟨rfl, rfl, ?_, ?_⟩ <;> ((repeat' (first | exact trivial | exact rfl | refine And.intro ?_ ?_)) <;> (try ((conv => whnf); first | refine vint ?_ | refine vboo ?_ | refine rint ?_ | refine rrow ?_ | skip)) <;> (try first | omega | (simp; done) | ((repeat rw [flts_closed _ (by assumption)]); exact vws_closed _ (by assumption))))) (fun i hi => ?_)
  obtain ⟨hi, hp⟩ := hi
  refine ⟨fun h => ?_, fun h => ?_⟩
  · have h : i < f.length := by have := ltT h; omega
    have hri := k2 _ (getD_mem (d := []) h)
    conv => whnf
    refine ⟨i, rfl, h, ?_⟩
    conv => whnf
    refine ⟨fun h3 => ?_, fun h3 => ?_⟩
    · have h3 : (f.getD i []).length = 4 := by
        have : ((f.getD i []).length : Int) = 4 := by simpa using h3
        omega
      conv => whnf
      refine ACall.use (allWithin_spec (f.getD i []) _ _ (by omega)) ?_
      conv => whnf
      refine ⟨fun h4 => ?_, fun h4 => ?_⟩
      · have h4 : rowIn (f.getD i []) (-99) 99 = false := by simpa using h4
        conv => whnf
        refine ⟨?_, rfl⟩
        rw [fnB, all_false (d := []) h (by rw [fnRow, h4, Bool.and_false]), Bool.and_false]
      · have h4 : rowIn (f.getD i []) (-99) 99 = true := by simpa using h4
        conv => whnf
        rw [nat_wrap (by omega)]
        exact ⟨i + 1, none, (by refine ⟨rfl, rfl, ?_, ?_⟩ <;> ((repeat' (first | exact trivial | exact rfl | refine And.intro ?_ ?_)) <;> (try ((conv => whnf); first | refine vint ?_ | refine vboo ?_ | refine rint ?_ | refine rrow ?_ | skip)) <;> (try first | omega | (simp; done) | ((repeat rw [flts_closed _ (by assumption)]); exact vws_closed _ (by assumption))))), ⟨by omega, all_take_succ (d := []) h hp (by rw [fnRow, h4, decide_eq_true h3]; rfl)⟩, by omega⟩
    · have h3 : ¬ (f.getD i []).length = 4 := by
        intro e; rw [e] at h3; exact absurd h3 (by decide)
      conv => whnf
      (repeat (conv => whnf); (first | refine ⟨fun h => absurd h (by decide), fun _ => ?_⟩ | refine ⟨fun _ => ?_, fun h => absurd h (by decide)⟩)); conv => whnf
      refine ⟨?_, rfl⟩
      rw [fnB, all_false (d := []) h (by rw [fnRow, decide_eq_false h3, Bool.false_and]), Bool.and_false]
  · have h : ¬ i < f.length := by have := ltF h; omega
    have hall := all_end h hp
    conv => whnf
    refine ACall.use (areQuestions_spec 2 2) ?_
    conv => whnf
    first | refine ⟨fun h => absurd h (by decide), fun _ => ?_⟩ | refine ⟨fun _ => ?_, fun h => absurd h (by decide)⟩
    conv => whnf
    refine ⟨?_, rfl⟩
    rw [fnB, hall, Bool.and_true]
    congr 1
    rw [show IntKind.i64.wrap (2 * 2) = 4 from rfl]
    by_cases e : f.length = 4
    · rw [e]; rfl
    · rw [decide_eq_false e]
      have : ¬ (f.length : Int) = 4 := by omega
      simp [this]
end Go.Proofs.YtkomndcehdneaaaGreat
/- WorthRange, reference and program. -/
namespace Go.Proofs.YtkomndcehdneaaaGreat
open Go.Aw
set_option maxRecDepth 100000
set_option maxHeartbeats 4000000

def exW (f : List (List Int)) (i : Nat) : Int := worthF f (exRow i)
def wLo (f : List (List Int)) : Nat → Int
  | 0 => exW f 0
  | i + 1 => min (wLo f i) (exW f i)
def wHi (f : List (List Int)) : Nat → Int
  | 0 => exW f 0
  | i + 1 => max (wHi f i) (exW f i)
theorem wLo_one (f : List (List Int)) : wLo f 1 = exW f 0 := by simp [wLo]
theorem wHi_one (f : List (List Int)) : wHi f 1 = exW f 0 := by simp [wHi]
theorem exW_spec (f : List (List Int)) (hf : f.length = 4) (h4 : ∀ r, r ∈ f → r.length = 4) (i : Nat) (x y z : Int) : FSpec Tryz.prog 82 [.t (.rows f), .ag [.c (.int .i64 (x)), .c (.int .i64 (y)), .c (.int .i64 (z)), .t (.rows (exRow i))]] (ex (.c (.int .i64 (exW f i))) []) :=
  l2Worth_spec f (exRow i) x y z (by rw [exRow_len, hf]) (by rw [exRow_len]; omega) h4 (exRow_rows i)
theorem exWi_spec (f : List (List Int)) (hf : f.length = 4) (h4 : ∀ r, r ∈ f → r.length = 4) (i : Nat) : FSpec Tryz.prog 79 [.t (.rows f), .t (.rows (exRow i))] (ex (.c (.int .i64 (exW f i))) []) :=
  worth_spec f (exRow i) (by rw [exRow_len, hf]) (by rw [exRow_len]; omega) h4 (exRow_rows i)

def wrLo (f : List (List Int)) : Int := if fnB f then wLo f 24 else 0
def wrHi (f : List (List Int)) : Int := if fnB f then wHi f 24 else 0

theorem WorthRange_s (f : List (List Int)) (_hf : OkM f) (kf : SzM f) : FSpec Tryz.prog 31 [.t (.rows f)] (ex (.tu [.c (.int .i64 (wrLo f)), .c (.int .i64 (wrHi f)), .c (.bool (fnB f))]) []) := by
  have hl := exL_len 24
  refine fspec tyOk mx Tryz.func31 rfl (by kernel_rfl) rfl ?_
  conv => whnf
  refine ACall.use (l2Functional_spec f kf) ?_
  conv => whnf
  refine ⟨fun h => ?_, fun h => ?_⟩
  · have h : fnB f = false := by simpa using h
    conv => whnf
    exact ⟨by rw [wrLo, wrHi, h]; rfl, rfl⟩
  · have h : fnB f = true := by simpa using h
    obtain ⟨g1, g2, _⟩ := fnB_spec h
    conv => whnf
    refine ACall.use l6Extremes_spec ?_
    conv => whnf
    refine ADraw.std tyOk mx ⟨by kernel_rfl, 0, rfl, by omega, ?_⟩
    conv => whnf
    rw [exL_get (i := 0) (by omega)]
    refine QCall.use (exW_spec f g1 g2 0 2 2 2) ?_
    conv => whnf
    refine ⟨0, rfl, by omega, ?_⟩
    conv => whnf
    rw [exL_get (i := 0) (by omega)]
    refine QCall.use (exW_spec f g1 g2 0 2 2 2) ?_
    conv => whnf
    refine aloopI tyOk mx (fun i : Nat => (⟨47, [(0, .t (.rows f)), (5, .t (.recs 3 (exL 24))), (6, .c (.int .i64 (wLo f i))), (7, .c (.int .i64 (wHi f i))), (8, .c (.int .i64 (i)))], [], 0⟩ : St)) (fun i => 1 ≤ i ∧ i ≤ 24) (fun i => 24 - i) 1 ⟨by omega, by omega⟩ none (by (refine ⟨rfl, rfl, ?_, ?_⟩ <;> ((repeat' (first | exact trivial | exact rfl | refine And.intro ?_ ?_)) <;> (try ((conv => whnf); first | refine vint ?_ | refine vboo ?_ | refine rint ?_ | refine rrow ?_ | skip)) <;> (try first | omega | (simp; done) | ((repeat rw [flts_closed _ (by assumption)]); exact vws_closed _ (by assumption))))); all_goals first | exact (wLo_one f).symm | exact (wHi_one f).symm) (fun i hi => ?_)
    refine ⟨fun h2 => ?_, fun h2 => ?_⟩
    · have h2 : i < 24 := by have := ltT h2; omega
      conv => whnf
      refine ⟨i, rfl, by omega, ?_⟩
      conv => whnf
      rw [exL_get h2]
      refine ACall.use (exW_spec f g1 g2 i 2 2 2) ?_
      conv => whnf
      refine ACall.use (r1Least_spec _ _) ?_
      conv => whnf
      refine ⟨i, rfl, by omega, ?_⟩
      conv => whnf
      rw [exL_get h2]
      refine ACall.use (exW_spec f g1 g2 i 2 2 2) ?_
      conv => whnf
      refine ACall.use (r1Most_spec _ _) ?_
      conv => whnf
      rw [nat_wrap (by omega)]
      exact ⟨i + 1, none, (by refine ⟨rfl, rfl, ?_, ?_⟩ <;> ((repeat' (first | exact trivial | exact rfl | refine And.intro ?_ ?_)) <;> (try ((conv => whnf); first | refine vint ?_ | refine vboo ?_ | refine rint ?_ | refine rrow ?_ | skip)) <;> (try first | omega | (simp; done) | ((repeat rw [flts_closed _ (by assumption)]); exact vws_closed _ (by assumption))))), by omega, by omega⟩
    · have h2 : ¬ i < 24 := by have := ltF h2; omega
      obtain rfl : i = 24 := by omega
      conv => whnf
      exact ⟨by rw [wrLo, wrHi, h]; rfl, rfl⟩

theorem WorthRange_i (f : List (List Int)) (_hf : OkM f) (kf : SzM f) : FSpec Tryz.prog 30 [.t (.rows f)] (ex (.tu [.c (.int .i64 (wrLo f)), .c (.int .i64 (wrHi f)), .c (.bool (fnB f))]) []) := by
  refine fspec tyOk mx Tryz.func30 rfl (by kernel_rfl) rfl ?_
  conv => whnf
  refine ACall.use (isFunctional_spec f kf) ?_
  conv => whnf
  refine ⟨fun h => ?_, fun h => ?_⟩
  · have h : fnB f = false := by simpa using h
    conv => whnf
    exact ⟨by rw [wrLo, wrHi, h]; rfl, rfl⟩
  · have h : fnB f = true := by simpa using h
    obtain ⟨g1, g2, _⟩ := fnB_spec h
    conv => whnf
    refine ACall.use (extreme_spec 0 (by omega)) ?_
    conv => whnf
    refine ACall.use (exWi_spec f g1 g2 0) ?_
    conv => whnf
    refine aloopI tyOk mx (fun i : Nat => (⟨34, [(0, .t (.rows f)), (5, .c (.int .i64 (wLo f i))), (6, .c (.int .i64 (wHi f i))), (17, .c (.int .i64 (i)))], [], 0⟩ : St)) (fun i => i ≤ 24) (fun i => 24 - i) 0 (Nat.zero_le _) none (by refine ⟨rfl, rfl, ?_, ?_⟩ <;> ((repeat' (first | exact trivial | exact rfl | refine And.intro ?_ ?_)) <;> (try ((conv => whnf); first | refine vint ?_ | refine vboo ?_ | refine rint ?_ | refine rrow ?_ | skip)) <;> (try first | omega | (simp; done) | ((repeat rw [flts_closed _ (by assumption)]); exact vws_closed _ (by assumption))))) (fun i hi => ?_)
    refine ⟨fun h2 => ?_, fun h2 => ?_⟩
    · have h2 : i < 24 := by have := of_decide_eq_true h2; omega
      conv => whnf
      refine ACall.use (extreme_spec i h2) ?_
      conv => whnf
      refine ACall.use (exWi_spec f g1 g2 i) ?_
      conv => whnf
      rw [nat_wrap (by omega)]
      refine ⟨i + 1, none, ?_, by omega, by omega⟩
      (refine ⟨rfl, rfl, ?_, ?_⟩ <;> ((repeat' (first | exact trivial | exact rfl | refine And.intro ?_ ?_)) <;> (try ((conv => whnf); first | refine vint ?_ | refine vboo ?_ | refine rint ?_ | refine rrow ?_ | skip)) <;> (try first | omega | (simp; done) | ((repeat rw [flts_closed _ (by assumption)]); exact vws_closed _ (by assumption)))))
      · exact mn_eq _ _
      · exact mx_eq _ _
    · have h2 : ¬ i < 24 := by have := of_decide_eq_false h2; omega
      obtain rfl : i = 24 := by omega
      conv => whnf
      exact ⟨by rw [wrLo, wrHi, h]; rfl, rfl⟩
end Go.Proofs.YtkomndcehdneaaaGreat
/- IsExtreme, reference and program. -/
namespace Go.Aw
def alkN (z z' : Int) (m m' : List (List Int)) (i n : Nat) : Bool := decide (W ((m.getD i []).getD n 0 * z') = W ((m'.getD i []).getD n 0 * z))
def alkB (z z' : Int) (m m' : List (List Int)) : Bool := (List.range m.length).all fun i => (List.range 4).all (alkN z z' m m' i)
end Go.Aw
namespace Go.Proofs.YtkomndcehdneaaaGreat
open Go.Aw
set_option maxRecDepth 100000
set_option maxHeartbeats 4000000



def alkE (z : Int) (m : List (List Int)) (i : Nat) : Bool := alkB z 2 m (exRow i)
def ixIs (x y z : Int) (m : List (List Int)) : Bool := qpB x y z m && !((List.range 24).all fun i => !alkE z m i)
theorem ix_yes {x y z : Int} {m : List (List Int)} {i : Nat} (h : qpB x y z m = true) (hi : i < 24) (h2 : alkE z m i = true) : ixIs x y z m = true := by
  rw [ixIs, h, rall_false hi (by rw [h2]; rfl)]; rfl
theorem ix_no {x y z : Int} {m : List (List Int)} (h2 : (List.range 24).all (fun i => !alkE z m i) = true) : ixIs x y z m = false := by
  rw [ixIs, h2]; simp


end Go.Proofs.YtkomndcehdneaaaGreat
/- Boxes that are alike: the program. -/
namespace Go.Proofs.YtkomndcehdneaaaGreat
open Go.Aw
set_option maxRecDepth 100000
set_option maxHeartbeats 4000000

def sqB (x y z : Int) (m : List (List Int)) (x' y' z' : Int) (m' : List (List Int)) : Bool := goodB x y z m && (goodB x' y' z' m' && (decide (x = x') && decide (y = y')))
theorem sqB_spec {x y z x' y' z' : Int} {m m' : List (List Int)} (h : sqB x y z m x' y' z' m' = true) : goodB x y z m = true ∧ goodB x' y' z' m' = true ∧ x = x' ∧ y = y' := by
  simp only [sqB, Bool.and_eq_true, decide_eq_true_eq] at h
  exact ⟨h.1, h.2.1, h.2.2.1, h.2.2.2⟩
/-- what AreAlike answers -/
def aaV (x y z : Int) (m : List (List Int)) (x' y' z' : Int) (m' : List (List Int)) : Bool := sqB x y z m x' y' z' m' && alkB z z' m m'
end Go.Proofs.YtkomndcehdneaaaGreat
/- Boxes of any sizes that are mixed: reference and program. -/
namespace Go.Aw
/-- a table of four columns -/
def gridR (G : Nat → Nat → Int) (p : Nat) : List Int := (List.range 4).map (G p)
def grid (n : Nat) (G : Nat → Nat → Int) : List (List Int) := (List.range n).map (gridR G)
theorem grid_len (n : Nat) (G : Nat → Nat → Int) : (grid n G).length = n := by simp [grid]
theorem grid_rows {n : Nat} {G : Nat → Nat → Int} : ∀ r, r ∈ grid n G → r.length = 4 := fun r hr => by
  obtain ⟨p, _, rfl⟩ := List.mem_map.1 hr
  simp [gridR]
theorem grid_get {n : Nat} {G : Nat → Nat → Int} {p q : Nat} (hp : p < n) (hq : q < 4) : ((grid n G).getD p []).getD q 0 = G p q := by
  rw [grid, range_getD hp, gridR, range_getD hq]
theorem grid_row {n : Nat} {G : Nat → Nat → Int} {p : Nat} (hp : p < n) : (grid n G).getD p [] = [G p 0, G p 1, G p 2, G p 3] := by
  rw [grid, range_getD hp]; rfl
theorem grid_congr {n : Nat} {F G : Nat → Nat → Int} (h : ∀ p q, p < n → q < 4 → F p q = G p q) : grid n F = grid n G :=
  List.map_congr_left fun p hp => List.map_congr_left fun q hq => h p q (List.mem_range.1 hp) (List.mem_range.1 hq)
theorem grid_eta {m : List (List Int)} (hr : ∀ r, r ∈ m → r.length = 4) : grid m.length (fun p q => (m.getD p []).getD q 0) = m := by
  refine List.ext_getElem (by rw [grid_len]) (fun p h1 h2 => ?_)
  have hp : p < m.length := h2
  have e1 : (grid m.length (fun p q => (m.getD p []).getD q 0))[p] = (grid m.length (fun p q => (m.getD p []).getD q 0)).getD p [] := by rw [List.getD_eq_getElem?_getD, List.getElem?_eq_getElem h1]; rfl
  have e2 : m.getD p [] = m[p] := by rw [List.getD_eq_getElem?_getD, List.getElem?_eq_getElem hp]; rfl
  rw [e1, grid_row hp, e2]
  match m[p], hr _ (List.getElem_mem hp) with
  | [a, b, c, d], _ => rfl
/-- rows by questions and answers -/
theorem box_grid (nx ny : Nat) (G : Nat → Nat → Int) : boxRows (fun x y a b => G (x * ny + y) (2 * a + b)) nx ny = grid (nx * ny) G := by
  have row : ∀ x y, boxRow (fun x y a b => G (x * ny + y) (2 * a + b)) x y = gridR G (x * ny + y) := fun x y => rfl
  induction nx with
  | zero => simp [boxRows, grid]
  | succ n ih =>
    have e : boxRows (fun x y a b => G (x * ny + y) (2 * a + b)) (n + 1) ny = boxRows (fun x y a b => G (x * ny + y) (2 * a + b)) n ny ++ (List.range ny).map (boxRow (fun x y a b => G (x * ny + y) (2 * a + b)) n) := by
      simp [boxRows, List.range_succ]
    rw [e, ih, Nat.succ_mul]
    unfold grid
    rw [List.range_add, List.map_append, List.map_map]
    rfl
def mxN (m m' : List (List Int)) (p q : Nat) : Int := W ((m.getD p []).getD q 0 + (m'.getD p []).getD q 0)
end Go.Aw
namespace Go.Proofs.YtkomndcehdneaaaGreat
open Go.Aw
set_option maxRecDepth 100000
set_option maxHeartbeats 4000000

theorem grid_sz {n : Nat} (h : n ≤ 9) (G : Nat → Nat → Int) : SzM (grid n G) := by
  have k1 := tot_le_mul (m := grid n G) (n := 4) (fun r hr => by rw [grid_rows r hr]; omega)
  rw [grid_len] at k1
  have : n * 4 ≤ 9 * 4 := Nat.mul_le_mul_right 4 h
  unfold SzM; rw [grid_len]; omega
theorem l2MixG_spec (x y z z' : Int) (m m' : List (List Int)) (N : Nat) (hN : N ≤ 1000) (hm : m.length = N) (h4 : ∀ r, r ∈ m → r.length = 4) (hm' : m'.length = N) (h4' : ∀ r, r ∈ m' → r.length = 4) (x' y' : Int) :
    FSpec Tryz.prog 181 [.ag [.c (.int .i64 (x)), .c (.int .i64 (y)), .c (.int .i64 (z)), .t (.rows m)], .ag [.c (.int .i64 (x')), .c (.int .i64 (y')), .c (.int .i64 (z')), .t (.rows m')]] (ex (.ag [.c (.int .i64 (x)), .c (.int .i64 (y)), .c (.int .i64 (W (z + z'))), .own 0]) [(0, .rows 38 3 true (grid N (mxN m m')))]) := by
  refine fspec tyOk mx Tryz.func181 rfl (by kernel_rfl) rfl ?_
  conv => whnf
  refine aloopI tyOk mx (fun i : Nat => (⟨59, [(2, .ptr 0 0), (3, .ptr 1 0), (4, .ptr 2 0), (5, .ptr 4 0), (6, .c (.int .i64 (i)))], [(0, .cells 26 [.c (.int .i64 (x)), .c (.int .i64 (y)), .c (.int .i64 (z)), .t (.rows m)]), (1, .cells 26 [.c (.int .i64 (x')), .c (.int .i64 (y')), .c (.int .i64 (z')), .t (.rows m')]), (2, .cells 26 [.c (.int .i64 (0)), .c (.int .i64 (0)), .c (.int .i64 (0)), .c (.slice none 0 0)]), (3, .rows 38 3 true ((List.range i).map (gridR (mxN m m')))), (4, .cells 26 [.c (.int .i64 (x)), .c (.int .i64 (y)), .c (.int .i64 (W (z + z'))), .own 3])], 5⟩ : St)) (fun i => i ≤ N) (fun i => N - i) 0 (Nat.zero_le _) none (by refine ⟨rfl, rfl, ?_, ?_⟩ <;> ((repeat' (first | exact trivial | exact rfl | refine And.intro ?_ ?_)) <;> (try ((conv => whnf); first | refine vint ?_ | refine vboo ?_ | refine rint ?_ | refine rrow ?_ | skip)) <;> (try first | omega | (simp; done) | ((repeat rw [flts_closed _ (by assumption)]); exact vws_closed _ (by assumption))))) (fun i hi => ?_)
  refine ⟨fun h => ?_, fun h => ?_⟩
  · have h : i < N := by have := ltT h; omega
    have r1 := h4 _ (getD_mem (d := []) (k := i) (by omega))
    have r2 := h4' _ (getD_mem (d := []) (k := i) (by omega))
    conv => whnf
    refine aloopI tyOk mx (fun n : Nat => (⟨59, [(2, .ptr 0 0), (3, .ptr 1 0), (4, .ptr 2 0), (5, .ptr 4 0), (6, .c (.int .i64 (i))), (7, .own 5), (8, .c (.int .i64 (n)))], [(0, .cells 26 [.c (.int .i64 (x)), .c (.int .i64 (y)), .c (.int .i64 (z)), .t (.rows m)]), (1, .cells 26 [.c (.int .i64 (x')), .c (.int .i64 (y')), .c (.int .i64 (z')), .t (.rows m')]), (2, .cells 26 [.c (.int .i64 (0)), .c (.int .i64 (0)), .c (.int .i64 (0)), .c (.slice none 0 0)]), (3, .rows 38 3 true ((List.range i).map (gridR (mxN m m')))), (4, .cells 26 [.c (.int .i64 (x)), .c (.int .i64 (y)), .c (.int .i64 (W (z + z'))), .own 3]), (5, .ints 3 .i64 ((List.range n).map (mxN m m' i)))], 6⟩ : St)) (fun n => n ≤ 4) (fun n => 4 - n) 0 (Nat.zero_le _) none (by refine ⟨rfl, rfl, ?_, ?_⟩ <;> ((repeat' (first | exact trivial | exact rfl | refine And.intro ?_ ?_)) <;> (try ((conv => whnf); first | refine vint ?_ | refine vboo ?_ | refine rint ?_ | refine rrow ?_ | skip)) <;> (try first | omega | (simp; done) | ((repeat rw [flts_closed _ (by assumption)]); exact vws_closed _ (by assumption))))) (fun n hn => ?_)
    refine ⟨fun h5 => ?_, fun h5 => ?_⟩
    · have h5 : n < 4 := by have := of_decide_eq_true h5; omega
      refine ADraw.plan tyOk mx (.q 0 (.q 1 (.q 2 (.q 3 (.q 4 (.q 5 (.q 6 (.q 7 (.q 8 (.q 9 (.q 10 (.q 11 (.q 12 (.q 13 (.q 14 (.q 15 (.q 16 (.q 17 (.last 18 (.last 19 (.q 20 (.done))))))))))))))))))))) : Plan) (by kernel_rfl) ?_
      conv => whnf
      refine ⟨i, rfl, by omega, n, rfl, by omega, i, rfl, by omega, n, rfl, by omega, ?_⟩
      conv => whnf
      refine ⟨by simp [room]; omega, ?_⟩
      conv => whnf
      rw [nat_wrap (by omega)]
      refine ⟨n + 1, none, ?_, by omega, by omega⟩
      (refine ⟨rfl, rfl, ?_, ?_⟩ <;> ((repeat' (first | exact trivial | exact rfl | refine And.intro ?_ ?_)) <;> (try ((conv => whnf); first | refine vint ?_ | refine vboo ?_ | refine rint ?_ | refine rrow ?_ | skip)) <;> (try first | omega | (simp; done) | ((repeat rw [flts_closed _ (by assumption)]); exact vws_closed _ (by assumption)))))
      rw [← map_range_succ]; rfl
    · have h5 : ¬ n < 4 := by have := of_decide_eq_false h5; omega
      obtain rfl : n = 4 := by omega
      conv => whnf
      refine ⟨by simp [room]; omega, ?_⟩
      conv => whnf
      rw [nat_wrap (by omega)]
      refine ⟨i + 1, none, ?_, by omega, by omega⟩
      (refine ⟨rfl, rfl, ?_, ?_⟩ <;> ((repeat' (first | exact trivial | exact rfl | refine And.intro ?_ ?_)) <;> (try ((conv => whnf); first | refine vint ?_ | refine vboo ?_ | refine rint ?_ | refine rrow ?_ | skip)) <;> (try first | omega | (simp; done) | ((repeat rw [flts_closed _ (by assumption)]); exact vws_closed _ (by assumption)))))
      exact map_range_succ (gridR (mxN m m')) i
  · have h : ¬ i < N := by have := ltF h; omega
    obtain rfl : i = N := by omega
    conv => whnf
    exact ⟨rfl, rfl⟩
/-- four numbers of at least 0 with a sum -/
theorem row4g {r : List Int} {z : Int} (h : rowOk z r = true) (hz : z ≤ 1000) : ∃ a b c d : Int, r = [a, b, c, d] ∧ 0 ≤ a ∧ 0 ≤ b ∧ 0 ≤ c ∧ 0 ≤ d ∧ a + b + c + d = z := by
  simp only [rowOk, Bool.and_eq_true, decide_eq_true_eq] at h
  obtain ⟨⟨h1, h2⟩, h3⟩ := h
  exact row4 hz h1 (fun v hv => rowIn_iff.1 h2 v hv) h3
/-- the mixture of good boxes is good, where it is not too great -/
theorem mx_good {x y z z' : Int} {m m' : List (List Int)} (h : goodB x y z m = true) (h' : goodB x y z' m' = true) (hz : z + z' ≤ 1000) : goodB x y (z + z') (grid m.length (mxN m m')) = true := by
  have h0 := h; have h0' := h'
  simp only [goodB, Bool.and_eq_true, decide_eq_true_eq, List.all_eq_true] at h h'
  obtain ⟨⟨⟨h1, h2⟩, h3⟩, h4⟩ := h
  obtain ⟨⟨⟨h1', h2'⟩, h3'⟩, h4'⟩ := h'
  have z1 := inR_iff.1 h2; have z2 := inR_iff.1 h2'
  simp only [goodB, Bool.and_eq_true, decide_eq_true_eq, List.all_eq_true]
  refine ⟨⟨⟨h1, inR_iff.2 (by omega)⟩, by rw [grid_len]; exact h3⟩, fun r hr => ?_⟩
  obtain ⟨p, hp, rfl⟩ := List.mem_map.1 hr
  have hp := List.mem_range.1 hp
  have hp' : p < m'.length := by omega
  obtain ⟨a, b, c, d, e, ha, hb, hc, hd, hs⟩ := row4g (h4 _ (getD_mem (d := []) hp)) z1.2
  obtain ⟨a', b', c', d', e', ha', hb', hc', hd', hs'⟩ := row4g (h4' _ (getD_mem (d := []) hp')) z2.2
  have eR : gridR (mxN m m') p = [W (a + a'), W (b + b'), W (c + c'), W (d + d')] := by
    show [mxN m m' p 0, mxN m m' p 1, mxN m m' p 2, mxN m m' p 3] = _
    unfold mxN
    rw [e, e']; rfl
  rw [eR, wS (n := a + a') (by omega) (by omega), wS (n := b + b') (by omega) (by omega), wS (n := c + c') (by omega) (by omega), wS (n := d + d') (by omega) (by omega)]
  exact rowOk_mk (by omega) (by omega) (by omega) (by omega) (by omega) hz

def mbOk (x y z : Int) (m : List (List Int)) (x' y' z' : Int) (m' : List (List Int)) : Bool := sqB x y z m x' y' z' m' && decide (z + z' ≤ 1000)
def mbR (x y z : Int) (m : List (List Int)) (x' y' z' : Int) (m' : List (List Int)) : List (List Int) := if mbOk x y z m x' y' z' m' then grid m.length (mxN m m') else []
end Go.Proofs.YtkomndcehdneaaaGreat
/- Boxes of any sizes, scaled: reference and program. -/
namespace Go.Aw
def scN (k : Int) (m : List (List Int)) (p q : Nat) : Int := W (k * (m.getD p []).getD q 0)
theorem timesG_get {M : List (List Int)} (hr : ∀ r, r ∈ M → r.length = 4) (k d : Int) {p q : Nat} (hp : p < M.length) (hq : q < 4) : ((timesL M k d).getD p []).getD q 0 = W (Int.tdiv (W ((M.getD p []).getD q 0 * k)) d) := by
  have hm : M.getD p [] ∈ M := by rw [List.getD_eq_getElem?_getD, List.getElem?_eq_getElem (by omega)]; exact List.getElem_mem _
  rw [timesL, map_getD (d := []) (by omega), timesR, map_getD (d := 0) (by rw [hr _ hm]; omega)]
theorem timesG {M : List (List Int)} (hr : ∀ r, r ∈ M → r.length = 4) (k d : Int) : timesL M k d = grid M.length (fun p q => W (Int.tdiv (W ((M.getD p []).getD q 0 * k)) d)) := by
  rw [← grid_eta (m := timesL M k d) (fun r hc => by
    obtain ⟨c, hc', rfl⟩ := List.mem_map.1 hc
    rw [timesR, List.length_map]; exact hr c hc'), timesL_len]
  exact grid_congr fun p q hp hq => timesG_get hr k d hp hq
theorem times_sc {M : List (List Int)} (hr : ∀ r, r ∈ M → r.length = 4) (k : Int) : timesL M k 1 = grid M.length (scN k M) := by
  rw [timesG hr]
  exact grid_congr fun p q _ _ => by rw [tdiv_one, WW, Int.mul_comm]; rfl
end Go.Aw
namespace Go.Proofs.YtkomndcehdneaaaGreat
open Go.Aw
set_option maxRecDepth 100000
set_option maxHeartbeats 4000000
def skOk (x y z : Int) (m : List (List Int)) (k : Int) : Bool := goodB x y z m && inR k 1 1000 && decide (k * z ≤ 1000)
def skR (x y z : Int) (m : List (List Int)) (k : Int) : List (List Int) := if skOk x y z m k then grid m.length (scN k m) else []
/-- a scaled good box is good, where it is not too great -/
theorem sc_good {x y z k : Int} {m : List (List Int)} (h : goodB x y z m = true) (hk : 1 ≤ k) (hz : k * z ≤ 1000) : goodB x y (k * z) (grid m.length (scN k m)) = true := by
  have h0 := h
  simp only [goodB, Bool.and_eq_true, decide_eq_true_eq, List.all_eq_true] at h
  obtain ⟨⟨⟨h1, h2⟩, h3⟩, h4⟩ := h
  have z1 := inR_iff.1 h2
  have k1 : z ≤ k * z := by
    have := Int.mul_le_mul_of_nonneg_right (a := 1) (b := k) (c := z) hk (by omega)
    omega
  simp only [goodB, Bool.and_eq_true, decide_eq_true_eq, List.all_eq_true]
  refine ⟨⟨⟨h1, inR_iff.2 (by omega)⟩, by rw [grid_len]; exact h3⟩, fun r hr => ?_⟩
  obtain ⟨p, hp, rfl⟩ := List.mem_map.1 hr
  have hp := List.mem_range.1 hp
  obtain ⟨a, b, c, d, e, ha, hb, hc, hd, hs⟩ := row4g (h4 _ (getD_mem (d := []) hp)) z1.2
  have eR : gridR (scN k m) p = [W (k * a), W (k * b), W (k * c), W (k * d)] := by
    show [scN k m p 0, scN k m p 1, scN k m p 2, scN k m p 3] = _
    unfold scN
    rw [e]; rfl
  have qa := Int.mul_nonneg (a := k) (by omega) ha
  have qb := Int.mul_nonneg (a := k) (by omega) hb
  have qc := Int.mul_nonneg (a := k) (by omega) hc
  have qd := Int.mul_nonneg (a := k) (by omega) hd
  have qs : k * a + k * b + k * c + k * d = k * z := by rw [← hs]; simp only [Int.mul_add]
  rw [eR, wS (n := k * a) (by omega) (by omega), wS (n := k * b) (by omega) (by omega), wS (n := k * c) (by omega) (by omega), wS (n := k * d) (by omega) (by omega)]
  exact rowOk_mk (by omega) (by omega) (by omega) (by omega) (by omega) hz
theorem sc_bd {k z : Int} (h1 : 1 ≤ k) (h2 : k ≤ 1000) (h3 : 1 ≤ z) (h4 : z ≤ 1000) : 1 ≤ k * z ∧ k * z ≤ 1000000 := by
  have a := Int.mul_le_mul h2 h4 (by omega) (by omega : (0 : Int) ≤ 1000)
  have b := Int.mul_le_mul h1 h3 (by omega) (by omega : (0 : Int) ≤ k)
  omega
end Go.Proofs.YtkomndcehdneaaaGreat
/- Games as arguments: sizes, copies, comparing, marks. -/
namespace Go.Proofs.YtkomndcehdneaaaGreat
open Go.Aw
set_option maxRecDepth 100000

def szGameF (s : List Int) (m : List (List Int)) (left : Int) : Int := if szS s left < 0 then -1 else if szSS m (szS s left) < 0 then -1 else szSS m (szS s left)
theorem szGame_tot {m : List (List Int)} {s : List Int} {left : Int} (h : 0 ≤ szGameF s m left) : 0 ≤ szGameF s m left ∧ szGameF s m left = left - s.length - m.length - tot m := by
  refine ⟨h, ?_⟩
  unfold szGameF at h ⊢
  split at h
  · omega
  · rename_i hn
    rw [if_neg hn]
    split at h
    · omega
    · rename_i hn2
      rw [if_neg hn2, (szSS_tot (Int.not_lt.1 hn2)).2]
      have : szS s left = left - s.length := by
        unfold szS at hn ⊢
        split at hn
        · omega
        · rename_i h4; rw [if_neg h4]
      omega


end Go.Proofs.YtkomndcehdneaaaGreat
/- Which games are valid: reference and program. -/
namespace Go.Proofs.YtkomndcehdneaaaGreat
open Go.Aw
set_option maxRecDepth 100000
set_option maxHeartbeats 4000000

def winOk (r : List Int) : Bool := decide (r.length = 4) && rowIn r 0 1
def goodG (x y : Int) (s : List Int) (m : List (List Int)) : Bool :=
  szOk x y && decide ((s.length : Int) = x * y) && decide ((m.length : Int) = x * y) && rowIn s 0 99 && decide (0 < sumF s s.length) && m.all winOk

theorem goodG_spec {x y : Int} {s : List Int} {m : List (List Int)} (h : goodG x y s m = true) : ∃ a b : Nat, x = a ∧ y = b ∧ 1 ≤ a ∧ a ≤ 3 ∧ 1 ≤ b ∧ b ≤ 3 ∧ s.length = a * b ∧ m.length = a * b ∧ a * b ≤ 9 ∧
    (∀ v, v ∈ s → 0 ≤ v ∧ v ≤ 99) ∧ 0 < sumF s s.length ∧ (∀ r, r ∈ m → r.length = 4 ∧ ∀ v, v ∈ r → 0 ≤ v ∧ v ≤ 1) := by
  simp only [goodG, Bool.and_eq_true, decide_eq_true_eq, List.all_eq_true, winOk, rowIn_iff] at h
  obtain ⟨⟨⟨⟨⟨h1, h2⟩, h3⟩, h4⟩, h5⟩, h6⟩ := h
  obtain ⟨a, b, rfl, rfl, g1, g2, g3, g4, g5, g6⟩ := szOk_nat h1
  rw [g5] at h2 h3
  exact ⟨a, b, rfl, rfl, g1, g2, g3, g4, by omega, by omega, g6, h4, h5, h6⟩

theorem l4Game_spec (x y : Int) (s : List Int) (m : List (List Int)) (ks : SzI s) (km : SzM m) :
    FSpec Tryz.prog 166 [.ag [.c (.int .i64 x), .c (.int .i64 y), .t (.ints .i64 s), .t (.rows m)]] (ex (.c (.bool (goodG x y s m))) []) := by
  obtain ⟨i, j, z⟩ := km.all
  have ks' : s.length ≤ 1048576 := ks
  refine fspec tyOk mx Tryz.func166 rfl (by kernel_rfl) rfl ?_
  conv => whnf
  refine ACall.use (l2Sizes_spec _ _) ?_
  conv => whnf
  refine ⟨fun h1 => ?_, fun h1 => ?_⟩
  · have h1 : szOk x y = true := by simpa using h1
    conv => whnf
    refine ⟨fun h2 => ?_, fun h2 => ?_⟩
    · rw [szOk_mul h1] at h2
      have h2 : (s.length : Int) = x * y := by simpa using h2
      conv => whnf
      refine ⟨fun h3 => ?_, fun h3 => ?_⟩
      · rw [szOk_mul h1] at h3
        have h3 : ¬ (m.length : Int) = x * y := by simpa using h3
        conv => whnf
        exact ⟨by rw [goodG, decide_eq_false h3]; simp, rfl⟩
      · rw [szOk_mul h1] at h3
        have h3 : (m.length : Int) = x * y := by simpa using h3
        have hsm : m.length = s.length := by omega
        have hsl : s.length ≤ 9 := by obtain ⟨a, b, _, _, _, _, _, _, h5, h6⟩ := szOk_nat h1; omega
        conv => whnf
        refine aloopI tyOk mx (fun k : Nat => (⟨65, [(1, .ptr 0 0), (3, .c (.int .i64 (sumF s k))), (4, .c (.int .i64 (k)))], [(0, .cells 41 [.c (.int .i64 (x)), .c (.int .i64 (y)), .t (.ints .i64 s), .t (.rows m)])], 1⟩ : St)) (fun k => k ≤ s.length ∧ (s.take k).all (fun x => inR x 0 99) = true ∧ (m.take k).all winOk = true) (fun k => s.length - k) 0 ⟨Nat.zero_le _, rfl, rfl⟩ none (by refine ⟨rfl, rfl, ?_, ?_⟩ <;> ((repeat' (first | exact trivial | exact rfl | refine And.intro ?_ ?_)) <;> (try ((conv => whnf); first | refine vint ?_ | refine vboo ?_ | refine rint ?_ | refine rrow ?_ | skip)) <;> (try first | omega | (simp; done) | ((repeat rw [flts_closed _ (by assumption)]); exact vws_closed _ (by assumption))))) (fun k hI => ?_)
        obtain ⟨hk, hp, hq⟩ := hI
        refine ⟨fun h => ?_, fun h => ?_⟩
        · have h := ltT h
          have hm' : k < m.length := by omega
          conv => whnf
          refine ⟨k, rfl, h, ?_⟩
          conv => whnf
          refine ACall.use (l1In_spec _ _ _) ?_
          conv => whnf
          refine ⟨fun h4 => ?_, fun h4 => ?_⟩
          · have h4 : inR (s.getD k 0) 0 99 = true := by simpa using h4
            conv => whnf
            refine ⟨k, rfl, hm', ?_⟩
            conv => whnf
            refine ACall.use (l2Bits_spec (m.getD k []) 4 (by have := j _ (getD_mem (d := []) hm'); omega)) ?_
            conv => whnf
            have e4 : (rowIn (m.getD k []) 0 1 && decide (((m.getD k []).length : Int) = 4)) = winOk (m.getD k []) := by
              rw [winOk, Bool.and_comm]; congr 1; exact decide_eq_decide.2 (by omega)
            refine ⟨fun h5 => ?_, fun h5 => ?_⟩
            · rw [e4] at h5
              conv => whnf
              exact ⟨by rw [goodG, all_false (d := []) hm' (by simpa using h5), Bool.and_false], rfl⟩
            · rw [e4] at h5
              conv => whnf
              refine ⟨k, rfl, h, ?_⟩
              conv => whnf
              rw [nat_wrap (by omega)]
              exact ⟨k + 1, none, (by refine ⟨rfl, rfl, ?_, ?_⟩ <;> ((repeat' (first | exact trivial | exact rfl | refine And.intro ?_ ?_)) <;> (try ((conv => whnf); first | refine vint ?_ | refine vboo ?_ | refine rint ?_ | refine rrow ?_ | skip)) <;> (try first | omega | (simp; done) | ((repeat rw [flts_closed _ (by assumption)]); exact vws_closed _ (by assumption))))), ⟨by omega, all_take_succ (d := 0) h hp h4, all_take_succ (d := []) hm' hq (by simpa using h5)⟩, by omega⟩
          · have h4 : inR (s.getD k 0) 0 99 = false := by simpa using h4
            (repeat (conv => whnf); (first | refine ⟨fun h => absurd h (by decide), fun _ => ?_⟩ | refine ⟨fun _ => ?_, fun h => absurd h (by decide)⟩)); conv => whnf
            exact ⟨by rw [goodG, rowIn, all_false (d := 0) h h4]; simp, rfl⟩
        · have h := ltF h
          have hs := all_end h hp
          have hm2 := all_end (by omega) hq
          obtain rfl : k = s.length := by omega
          conv => whnf
          refine ⟨?_, rfl⟩
          rw [goodG, h1, decide_eq_true h2, decide_eq_true h3, hm2, rowIn, hs]
          simp
    · rw [szOk_mul h1] at h2
      have h2 : ¬ (s.length : Int) = x * y := by simpa using h2
      (repeat (conv => whnf); (first | refine ⟨fun h => absurd h (by decide), fun _ => ?_⟩ | refine ⟨fun _ => ?_, fun h => absurd h (by decide)⟩)); conv => whnf
      exact ⟨by rw [goodG, decide_eq_false h2]; simp, rfl⟩
  · have h1 : szOk x y = false := by simpa using h1
    (repeat (conv => whnf); (first | refine ⟨fun h => absurd h (by decide), fun _ => ?_⟩ | refine ⟨fun _ => ?_, fun h => absurd h (by decide)⟩)); conv => whnf
    exact ⟨by rw [goodG, h1]; simp, rfl⟩

theorem iIsGame_spec (x y : Int) (s : List Int) (m : List (List Int)) (ks : SzI s) (km : SzM m) :
    FSpec Tryz.prog 90 [.ag [.c (.int .i64 x), .c (.int .i64 y), .t (.ints .i64 s), .t (.rows m)]] (ex (.c (.bool (goodG x y s m))) []) := by
  obtain ⟨i, j, z⟩ := km.all
  have ks' : s.length ≤ 1048576 := ks
  refine fspec tyOk mx Tryz.func90 rfl (by kernel_rfl) rfl ?_
  conv => whnf
  refine ACall.use (areQuestions_spec _ _) ?_
  conv => whnf
  refine ⟨fun h1 => ?_, fun h1 => ?_⟩
  · have h1 : szOk x y = true := by simpa using h1
    conv => whnf
    refine ⟨fun h2 => ?_, fun h2 => ?_⟩
    · rw [szOk_mul h1] at h2
      have h2 : (s.length : Int) = x * y := by simpa using h2
      have hsl : s.length ≤ 9 := by obtain ⟨a, b, _, _, _, _, _, _, h5, h6⟩ := szOk_nat h1; omega
      conv => whnf
      refine ACall.use (allWithin_spec s _ _ (by omega)) ?_
      conv => whnf
      refine ⟨fun h4 => ?_, fun h4 => ?_⟩
      · have h4 : rowIn s 0 99 = true := by simpa using h4
        have hbd := sumF_bd (rowIn_iff.1 h4) (by omega) s.length (Nat.le_refl _)
        conv => whnf
        refine ACall.use (total_spec s ks') ?_
        conv => whnf
        refine ⟨fun h5 => ?_, fun h5 => ?_⟩
        · have h5 : 0 < sumF s s.length := by simp at h5; omega
          conv => whnf
          refine ⟨fun h3 => ?_, fun h3 => ?_⟩
          · rw [szOk_mul h1] at h3
            have h3 : ¬ (m.length : Int) = x * y := by simpa using h3
            conv => whnf
            exact ⟨by rw [goodG, decide_eq_false h3]; simp, rfl⟩
          · rw [szOk_mul h1] at h3
            have h3 : (m.length : Int) = x * y := by simpa using h3
            conv => whnf
            refine aloopI tyOk mx (fun k : Nat => (⟨59, [(1, .ptr 0 0), (44, .t (.rows m)), (45, .c (.int .i64 (m.length))), (46, .c (.int .i64 (k)))], [(0, .cells 41 [.c (.int .i64 (x)), .c (.int .i64 (y)), .t (.ints .i64 s), .t (.rows m)])], 1⟩ : St)) (fun k => k ≤ m.length ∧ (m.take k).all winOk = true) (fun k => m.length - k) 0 ⟨Nat.zero_le _, rfl⟩ none (by refine ⟨rfl, rfl, ?_, ?_⟩ <;> ((repeat' (first | exact trivial | exact rfl | refine And.intro ?_ ?_)) <;> (try ((conv => whnf); first | refine vint ?_ | refine vboo ?_ | refine rint ?_ | refine rrow ?_ | skip)) <;> (try first | omega | (simp; done) | ((repeat rw [flts_closed _ (by assumption)]); exact vws_closed _ (by assumption))))) (fun k hI => ?_)
            obtain ⟨hk, hp⟩ := hI
            refine ⟨fun h => ?_, fun h => ?_⟩
            · have h := ltT h
              conv => whnf
              refine ⟨k, rfl, h, ?_⟩
              conv => whnf
              refine ⟨fun h6 => ?_, fun h6 => ?_⟩
              · have h6 : (m.getD k []).length = 4 := by rw [bne_eq_false_iff_eq] at h6; omega
                conv => whnf
                refine ACall.use (allWithin_spec (m.getD k []) _ _ (by omega)) ?_
                conv => whnf
                refine ⟨fun h7 => ?_, fun h7 => ?_⟩
                · have h7 : rowIn (m.getD k []) 0 1 = false := by simpa using h7
                  conv => whnf
                  exact ⟨by rw [goodG, all_false (d := []) h (by rw [winOk, h7, Bool.and_false]), Bool.and_false], rfl⟩
                · have h7 : rowIn (m.getD k []) 0 1 = true := by simpa using h7
                  conv => whnf
                  rw [nat_wrap (by omega)]
                  exact ⟨k + 1, none, (by refine ⟨rfl, rfl, ?_, ?_⟩ <;> ((repeat' (first | exact trivial | exact rfl | refine And.intro ?_ ?_)) <;> (try ((conv => whnf); first | refine vint ?_ | refine vboo ?_ | refine rint ?_ | refine rrow ?_ | skip)) <;> (try first | omega | (simp; done) | ((repeat rw [flts_closed _ (by assumption)]); exact vws_closed _ (by assumption))))), ⟨by omega, all_take_succ (d := []) h hp (by rw [winOk, h7, h6]; rfl)⟩, by omega⟩
              · have h6 : ¬ (m.getD k []).length = 4 := by rw [bne_iff_ne] at h6; omega
                (repeat (conv => whnf); (first | refine ⟨fun h => absurd h (by decide), fun _ => ?_⟩ | refine ⟨fun _ => ?_, fun h => absurd h (by decide)⟩)); conv => whnf
                exact ⟨by rw [goodG, all_false (d := []) h (by rw [winOk, decide_eq_false h6, Bool.false_and]), Bool.and_false], rfl⟩
            · have h := ltF h
              have hm2 := all_end h hp
              conv => whnf
              refine ⟨?_, rfl⟩
              rw [goodG, h1, decide_eq_true h2, decide_eq_true h3, hm2, h4, decide_eq_true h5]
              rfl
        · have h5 : ¬ 0 < sumF s s.length := by simp at h5; omega
          (repeat (conv => whnf); (first | refine ⟨fun h => absurd h (by decide), fun _ => ?_⟩ | refine ⟨fun _ => ?_, fun h => absurd h (by decide)⟩)); conv => whnf
          exact ⟨by rw [goodG, decide_eq_false h5]; simp, rfl⟩
      · have h4 : rowIn s 0 99 = false := by simpa using h4
        (repeat (conv => whnf); (first | refine ⟨fun h => absurd h (by decide), fun _ => ?_⟩ | refine ⟨fun _ => ?_, fun h => absurd h (by decide)⟩)); conv => whnf
        exact ⟨by rw [goodG, h4]; simp, rfl⟩
    · rw [szOk_mul h1] at h2
      have h2 : ¬ (s.length : Int) = x * y := by simpa using h2
      (repeat (conv => whnf); (first | refine ⟨fun h => absurd h (by decide), fun _ => ?_⟩ | refine ⟨fun _ => ?_, fun h => absurd h (by decide)⟩)); conv => whnf
      exact ⟨by rw [goodG, decide_eq_false h2]; simp, rfl⟩
  · have h1 : szOk x y = false := by simpa using h1
    (repeat (conv => whnf); (first | refine ⟨fun h => absurd h (by decide), fun _ => ?_⟩ | refine ⟨fun _ => ?_, fun h => absurd h (by decide)⟩)); conv => whnf
    exact ⟨by rw [goodG, h1]; simp, rfl⟩
end Go.Proofs.YtkomndcehdneaaaGreat
/- Scores of plays: reference and program. -/
namespace Go.Aw
def bitIx (p : List Int) (n i k : Nat) : Nat := (2 * p.getD i 0 + p.getD (n + k) 0).toNat
theorem bits_mem {p : List Int} (h : ∀ v, v ∈ p → 0 ≤ v ∧ v ≤ 1) {i : Nat} : 0 ≤ p.getD i 0 ∧ p.getD i 0 ≤ 1 := by
  by_cases hi : i < p.length
  · exact h _ (by rw [List.getD_eq_getElem?_getD, List.getElem?_eq_getElem hi]; exact List.getElem_mem _)
  · rw [List.getD_eq_getElem?_getD, List.getElem?_eq_none (by omega)]; simp
theorem bitIx_eq {p : List Int} (h : ∀ v, v ∈ p → 0 ≤ v ∧ v ≤ 1) (n i k : Nat) : IntKind.i64.wrap (IntKind.i64.wrap (2 * p.getD i 0) + p.getD (n + k) 0) = ((bitIx p n i k : Nat) : Int) ∧ bitIx p n i k < 4 := by
  have h1 := bits_mem h (i := i)
  have h2 := bits_mem h (i := n + k)
  unfold bitIx
  rw [w64 (n := 2 * p.getD i 0) (by omega) (by omega), w64 (by omega) (by omega)]
  omega
def wonAt (s : List Int) (m : List (List Int)) (p : List Int) (nx ny i k : Nat) : Int := W (s.getD (i * ny + k) 0 * (m.getD (i * ny + k) []).getD (bitIx p nx i k) 0)
def scoreRow (s : List Int) (m : List (List Int)) (p : List Int) (nx ny i : Nat) (a : Int) (n : Nat) : Int := fo (fun a k => W (a + wonAt s m p nx ny i k)) a n
def scoreTo (s : List Int) (m : List (List Int)) (p : List Int) (nx ny n : Nat) : Int := fo (fun a i => scoreRow s m p nx ny i a ny) 0 n
def pwRow (f : List (List Int)) (p : List Int) (nx ny i : Nat) (a : Int) (n : Nat) : Int := fo (fun a k => W (a + (f.getD (i * ny + k) []).getD (bitIx p nx i k) 0)) a n
def pwTo (f : List (List Int)) (p : List Int) (nx ny n : Nat) : Int := fo (fun a i => pwRow f p nx ny i a ny) 0 n
def fnGRow (s : List Int) (m : List (List Int)) (i : Nat) : List Int := (m.getD i []).map (fun w => W (w * s.getD i 0))
def funG (s : List Int) (m : List (List Int)) : List (List Int) := (List.range m.length).map (fnGRow s m)
theorem pw_score (s : List Int) (m : List (List Int)) (p : List Int) (nx ny : Nat) (hp : ∀ v, v ∈ p → 0 ≤ v ∧ v ≤ 1) (hm : m.length = nx * ny) (h4 : ∀ r, r ∈ m → r.length = 4) :
    pwTo (funG s m) p nx ny nx = scoreTo s m p nx ny nx := by
  refine fo_congr fun a i hi => fo_congr fun b k hk => ?_
  have hlt := ix_lt hi hk
  have hb := (bitIx_eq hp nx i k).2
  have hrow : (m.getD (i * ny + k) []).length = 4 := h4 _ (by rw [List.getD_eq_getElem?_getD, List.getElem?_eq_getElem (by omega)]; exact List.getElem_mem _)
  rw [funG, range_getD (by omega), fnGRow, map_getD (d := 0) (by omega), wonAt, Int.mul_comm]
end Go.Aw
namespace Go.Proofs.YtkomndcehdneaaaGreat
open Go.Aw
set_option maxRecDepth 100000
set_option maxHeartbeats 4000000



theorem playWorth_spec (nx ny : Nat) (f : List (List Int)) (p : List Int) (hx : nx ≤ 3) (hy : ny ≤ 3) (hf : f.length = nx * ny) (h4 : ∀ r, r ∈ f → r.length = 4) (hp : ∀ v, v ∈ p → 0 ≤ v ∧ v ≤ 1) (hl : p.length = nx + ny) :
    FSpec Tryz.prog 155 [.c (.int .i64 (nx)), .c (.int .i64 (ny)), .t (.rows f), .t (.ints .i64 p)] (ex (.c (.int .i64 (pwTo f p nx ny nx))) []) := by
  have hn : nx * ny ≤ 3 * 3 := Nat.mul_le_mul hx hy
  refine fspec tyOk mx Tryz.func155 rfl (by kernel_rfl) rfl ?_
  conv => whnf
  refine aloopI tyOk mx (fun i : Nat => (⟨47, [(0, .c (.int .i64 (nx))), (1, .c (.int .i64 (ny))), (2, .t (.rows f)), (3, .t (.ints .i64 p)), (9, .c (.int .i64 (pwTo f p nx ny i))), (12, .c (.int .i64 (nx))), (13, .c (.int .i64 (i)))], [], 0⟩ : St)) (fun i => i ≤ nx) (fun i => nx - i) 0 (Nat.zero_le _) none (by refine ⟨rfl, rfl, ?_, ?_⟩ <;> ((repeat' (first | exact trivial | exact rfl | refine And.intro ?_ ?_)) <;> (try ((conv => whnf); first | refine vint ?_ | refine vboo ?_ | refine rint ?_ | refine rrow ?_ | skip)) <;> (try first | omega | (simp; done) | ((repeat rw [flts_closed _ (by assumption)]); exact vws_closed _ (by assumption))))) (fun i hi => ?_)
  refine ⟨fun h => ?_, fun h => ?_⟩
  · have h := ltT h
    conv => whnf
    refine aloopI tyOk mx (fun k : Nat => (⟨47, [(0, .c (.int .i64 (nx))), (1, .c (.int .i64 (ny))), (2, .t (.rows f)), (3, .t (.ints .i64 p)), (9, .c (.int .i64 (pwRow f p nx ny i (pwTo f p nx ny i) k))), (10, .c (.int .i64 (i))), (12, .c (.int .i64 (nx))), (13, .c (.int .i64 (i))), (16, .c (.int .i64 (ny))), (17, .c (.int .i64 (k)))], [], 0⟩ : St)) (fun k => k ≤ ny) (fun k => ny - k) 0 (Nat.zero_le _) none (by refine ⟨rfl, rfl, ?_, ?_⟩ <;> ((repeat' (first | exact trivial | exact rfl | refine And.intro ?_ ?_)) <;> (try ((conv => whnf); first | refine vint ?_ | refine vboo ?_ | refine rint ?_ | refine rrow ?_ | skip)) <;> (try first | omega | (simp; done) | ((repeat rw [flts_closed _ (by assumption)]); exact vws_closed _ (by assumption))))) (fun k hk => ?_)
    refine ⟨fun h2 => ?_, fun h2 => ?_⟩
    · have h2 := ltT h2
      have hlt := ix_lt h h2
      have hb := bitIx_eq hp nx i k
      have hrow : (f.getD (i * ny + k) []).length = 4 := h4 _ (getD_mem (by omega))
      conv => whnf
      refine ADraw.std tyOk mx ⟨by kernel_rfl, i * ny + k, natMulAdd (by omega), by omega, i, rfl, by omega, nx + k, natAdd (by omega), by omega, bitIx p nx i k, hb.1, by omega, ?_⟩
      conv => whnf
      rw [nat_wrap (by omega)]
      exact ⟨k + 1, none, (by refine ⟨rfl, rfl, ?_, ?_⟩ <;> ((repeat' (first | exact trivial | exact rfl | refine And.intro ?_ ?_)) <;> (try ((conv => whnf); first | refine vint ?_ | refine vboo ?_ | refine rint ?_ | refine rrow ?_ | skip)) <;> (try first | omega | (simp; done) | ((repeat rw [flts_closed _ (by assumption)]); exact vws_closed _ (by assumption))))), by omega, by omega⟩
    · have h2 := ltF h2
      obtain rfl : k = ny := by omega
      conv => whnf
      rw [nat_wrap (by omega)]
      exact ⟨i + 1, none, (by refine ⟨rfl, rfl, ?_, ?_⟩ <;> ((repeat' (first | exact trivial | exact rfl | refine And.intro ?_ ?_)) <;> (try ((conv => whnf); first | refine vint ?_ | refine vboo ?_ | refine rint ?_ | refine rrow ?_ | skip)) <;> (try first | omega | (simp; done) | ((repeat rw [flts_closed _ (by assumption)]); exact vws_closed _ (by assumption))))), by omega, by omega⟩
  · have h := ltF h
    obtain rfl : i = nx := by omega
    conv => whnf
    exact ⟨rfl, rfl⟩

theorem functional_spec (x y : Int) (s : List Int) (m : List (List Int)) (hs : s.length = m.length) (hm : m.length ≤ 1000) (h4 : ∀ r, r ∈ m → r.length ≤ 1000) :
    FSpec Tryz.prog 107 [.ag [.c (.int .i64 (x)), .c (.int .i64 (y)), .t (.ints .i64 s), .t (.rows m)]] (ex (.own 0) [(0, .rows 38 3 true (funG s m))]) := by
  refine fspec tyOk mx Tryz.func107 rfl (by kernel_rfl) rfl ?_
  conv => whnf
  refine aloopI tyOk mx (fun i : Nat => (⟨42, [(1, .ptr 0 0), (3, .own 1), (11, .t (.rows m)), (12, .c (.int .i64 (m.length))), (13, .c (.int .i64 (i)))], [(0, .cells 41 [.c (.int .i64 (x)), .c (.int .i64 (y)), .t (.ints .i64 s), .t (.rows m)]), (1, .rows 38 3 true ((List.range i).map (fnGRow s m)))], 2⟩ : St)) (fun i => i ≤ m.length) (fun i => m.length - i) 0 (Nat.zero_le _) none (by refine ⟨rfl, rfl, ?_, ?_⟩ <;> ((repeat' (first | exact trivial | exact rfl | refine And.intro ?_ ?_)) <;> (try ((conv => whnf); first | refine vint ?_ | refine vboo ?_ | refine rint ?_ | refine rrow ?_ | skip)) <;> (try first | omega | (simp; done) | ((repeat rw [flts_closed _ (by assumption)]); exact vws_closed _ (by assumption))))) (fun i hi => ?_)
  refine ⟨fun h => ?_, fun h => ?_⟩
  · have h := ltT h
    have h5 := h4 _ (getD_mem (d := []) h)
    conv => whnf
    refine ⟨i, rfl, h, ?_⟩
    conv => whnf
    refine aloopI tyOk mx (fun k : Nat => (⟨42, [(1, .ptr 0 0), (3, .own 1), (4, .c (.int .i64 (i))), (6, .own 2), (11, .t (.rows m)), (12, .c (.int .i64 (m.length))), (13, .c (.int .i64 (i))), (19, .t (.ints .i64 (m.getD i []))), (20, .c (.int .i64 ((m.getD i []).length))), (21, .c (.int .i64 (k)))], [(0, .cells 41 [.c (.int .i64 (x)), .c (.int .i64 (y)), .t (.ints .i64 s), .t (.rows m)]), (1, .rows 38 3 true ((List.range i).map (fnGRow s m))), (2, .ints 3 .i64 (((m.getD i []).take k).map (fun w => W (w * s.getD i 0))))], 3⟩ : St)) (fun k => k ≤ (m.getD i []).length) (fun k => (m.getD i []).length - k) 0 (Nat.zero_le _) none (by refine ⟨rfl, rfl, ?_, ?_⟩ <;> ((repeat' (first | exact trivial | exact rfl | refine And.intro ?_ ?_)) <;> (try ((conv => whnf); first | refine vint ?_ | refine vboo ?_ | refine rint ?_ | refine rrow ?_ | skip)) <;> (try first | omega | (simp; done) | ((repeat rw [flts_closed _ (by assumption)]); exact vws_closed _ (by assumption))))) (fun k hk => ?_)
    refine ⟨fun h2 => ?_, fun h2 => ?_⟩
    · have h2 := ltT h2
      conv => whnf
      refine ⟨k, rfl, h2, ?_⟩
      conv => whnf
      refine ⟨i, rfl, by omega, ?_⟩
      conv => whnf
      refine ⟨by simp [room]; omega, ?_⟩
      conv => whnf
      rw [nat_wrap (by omega)]
      refine ⟨k + 1, none, ?_, by omega, by omega⟩
      (refine ⟨rfl, rfl, ?_, ?_⟩ <;> ((repeat' (first | exact trivial | exact rfl | refine And.intro ?_ ?_)) <;> (try ((conv => whnf); first | refine vint ?_ | refine vboo ?_ | refine rint ?_ | refine rrow ?_ | skip)) <;> (try first | omega | (simp; done) | ((repeat rw [flts_closed _ (by assumption)]); exact vws_closed _ (by assumption)))))
      rw [List.take_succ_eq_append_getElem h2, List.map_append, getD_lt h2]
      rfl
    · have h2 := ltF h2
      obtain rfl : k = (m.getD i []).length := by omega
      conv => whnf
      refine ⟨by simp [room]; omega, ?_⟩
      conv => whnf
      rw [nat_wrap (by omega)]
      refine ⟨i + 1, none, ?_, by omega, by omega⟩
      (refine ⟨rfl, rfl, ?_, ?_⟩ <;> ((repeat' (first | exact trivial | exact rfl | refine And.intro ?_ ?_)) <;> (try ((conv => whnf); first | refine vint ?_ | refine vboo ?_ | refine rint ?_ | refine rrow ?_ | skip)) <;> (try first | omega | (simp; done) | ((repeat rw [flts_closed _ (by assumption)]); exact vws_closed _ (by assumption)))))
      rw [← map_range_succ, fnGRow, List.take_length]
  · have h := ltF h
    obtain rfl : i = m.length := by omega
    conv => whnf
    exact ⟨rfl, rfl⟩

theorem l4Functional_spec (x y : Int) (s : List Int) (m : List (List Int)) (hs : s.length = m.length) (hm : m.length ≤ 1000) (h4 : ∀ r, r ∈ m → r.length = 4) :
    FSpec Tryz.prog 94 [.ag [.c (.int .i64 (x)), .c (.int .i64 (y)), .t (.ints .i64 s), .t (.rows m)]] (ex (.own 0) [(0, .rows 38 3 true (funG s m))]) := by
  refine fspec tyOk mx Tryz.func94 rfl (by kernel_rfl) rfl ?_
  conv => whnf
  refine aloopI tyOk mx (fun i : Nat => (⟨42, [(1, .ptr 0 0), (3, .own 1), (4, .c (.int .i64 (i)))], [(0, .cells 41 [.c (.int .i64 (x)), .c (.int .i64 (y)), .t (.ints .i64 s), .t (.rows m)]), (1, .rows 38 3 true ((List.range i).map (fnGRow s m)))], 2⟩ : St)) (fun i => i ≤ m.length) (fun i => m.length - i) 0 (Nat.zero_le _) none (by refine ⟨rfl, rfl, ?_, ?_⟩ <;> ((repeat' (first | exact trivial | exact rfl | refine And.intro ?_ ?_)) <;> (try ((conv => whnf); first | refine vint ?_ | refine vboo ?_ | refine rint ?_ | refine rrow ?_ | skip)) <;> (try first | omega | (simp; done) | ((repeat rw [flts_closed _ (by assumption)]); exact vws_closed _ (by assumption))))) (fun i hi => ?_)
  refine ⟨fun h => ?_, fun h => ?_⟩
  · have h := ltT h
    have h5 := h4 _ (getD_mem (d := []) h)
    conv => whnf
    refine aloopI tyOk mx (fun k : Nat => (⟨42, [(1, .ptr 0 0), (3, .own 1), (4, .c (.int .i64 (i))), (5, .own 2), (6, .c (.int .i64 (k)))], [(0, .cells 41 [.c (.int .i64 (x)), .c (.int .i64 (y)), .t (.ints .i64 s), .t (.rows m)]), (1, .rows 38 3 true ((List.range i).map (fnGRow s m))), (2, .ints 3 .i64 (((m.getD i []).take k).map (fun w => W (w * s.getD i 0))))], 3⟩ : St)) (fun k => k ≤ 4) (fun k => 4 - k) 0 (Nat.zero_le _) none (by refine ⟨rfl, rfl, ?_, ?_⟩ <;> ((repeat' (first | exact trivial | exact rfl | refine And.intro ?_ ?_)) <;> (try ((conv => whnf); first | refine vint ?_ | refine vboo ?_ | refine rint ?_ | refine rrow ?_ | skip)) <;> (try first | omega | (simp; done) | ((repeat rw [flts_closed _ (by assumption)]); exact vws_closed _ (by assumption))))) (fun k hk => ?_)
    refine ⟨fun h2 => ?_, fun h2 => ?_⟩
    · have h2 : k < (m.getD i []).length := by have := of_decide_eq_true h2; omega
      conv => whnf
      refine ADraw.plan tyOk mx (.q 0 (.q 1 (.q 2 (.q 3 (.q 4 (.q 5 (.q 6 (.q 7 (.q 8 (.q 9 (.q 10 (.q 11 (.q 12 (.q 13 (.q 14 (.last 15 (.last 16 (.q 17 (.done)))))))))))))))))) : Plan) (by kernel_rfl) ?_
      conv => whnf
      refine ⟨i, rfl, by omega, i, rfl, h, k, rfl, h2, ?_⟩
      conv => whnf
      refine ⟨by simp [room]; omega, ?_⟩
      conv => whnf
      rw [nat_wrap (by omega)]
      refine ⟨k + 1, none, ?_, by omega, by omega⟩
      (refine ⟨rfl, rfl, ?_, ?_⟩ <;> ((repeat' (first | exact trivial | exact rfl | refine And.intro ?_ ?_)) <;> (try ((conv => whnf); first | refine vint ?_ | refine vboo ?_ | refine rint ?_ | refine rrow ?_ | skip)) <;> (try first | omega | (simp; done) | ((repeat rw [flts_closed _ (by assumption)]); exact vws_closed _ (by assumption)))))
      rw [List.take_succ_eq_append_getElem h2, List.map_append, getD_lt h2, Int.mul_comm]
      rfl
    · have h2 : ¬ k < 4 := by have := of_decide_eq_false h2; omega
      obtain rfl : k = 4 := by omega
      conv => whnf
      refine ⟨by simp [room]; omega, ?_⟩
      conv => whnf
      rw [nat_wrap (by omega)]
      refine ⟨i + 1, none, ?_, by omega, by omega⟩
      (refine ⟨rfl, rfl, ?_, ?_⟩ <;> ((repeat' (first | exact trivial | exact rfl | refine And.intro ?_ ?_)) <;> (try ((conv => whnf); first | refine vint ?_ | refine vboo ?_ | refine rint ?_ | refine rrow ?_ | skip)) <;> (try first | omega | (simp; done) | ((repeat rw [flts_closed _ (by assumption)]); exact vws_closed _ (by assumption)))))
      rw [← map_range_succ, fnGRow, List.take_of_length_le (by omega)]
  · have h := ltF h
    obtain rfl : i = m.length := by omega
    conv => whnf
    exact ⟨rfl, rfl⟩

theorem score_spec (nx ny : Nat) (s : List Int) (m : List (List Int)) (p : List Int) (hx : nx ≤ 3) (hy : ny ≤ 3) (hs : s.length = nx * ny) (hm : m.length = nx * ny) (h4 : ∀ r, r ∈ m → r.length = 4) (hp : ∀ v, v ∈ p → 0 ≤ v ∧ v ≤ 1) (hl : p.length = nx + ny) :
    FSpec Tryz.prog 109 [.ag [.c (.int .i64 (nx)), .c (.int .i64 (ny)), .t (.ints .i64 s), .t (.rows m)], .t (.ints .i64 p)] (ex (.c (.int .i64 (scoreTo s m p nx ny nx))) []) := by
  have hn : nx * ny ≤ 3 * 3 := Nat.mul_le_mul hx hy
  have hf : (funG s m).length = nx * ny := by simp [funG, hm]
  have hf4 : ∀ r, r ∈ funG s m → r.length = 4 := fun r hr => by
    obtain ⟨i, hi, rfl⟩ := List.mem_map.1 hr
    rw [fnGRow, List.length_map]
    exact h4 _ (getD_mem (by simpa using hi))
  refine fspec tyOk mx Tryz.func109 rfl (by kernel_rfl) rfl ?_
  conv => whnf
  refine ADraw.plan tyOk mx (.q 0 (.q 1 (.q 2 (.q 3 (.q 4 (.q 6 (.last 5 (.last 7 (.q 8 (.done))))))))) : Plan) (by kernel_rfl) ?_
  conv => whnf
  refine ACall.useR (functional_spec _ _ s m (by omega) (by omega) (fun r hr => by have := h4 r hr; omega)) ?_
  conv => whnf
  refine ACall.useR (playWorth_spec nx ny (funG s m) p hx hy hf hf4 hp hl) ?_
  conv => whnf
  exact ⟨by rw [pw_score s m p nx ny hp hm h4], rfl⟩

theorem isPlay_spec (x y : Int) (p : List Int) (hl : p.length ≤ 1048576) :
    FSpec Tryz.prog 86 [.c (.int .i64 (x)), .c (.int .i64 (y)), .t (.ints .i64 p)] (ex (.c (.bool (decide ((p.length : Int) = W (x + y)) && rowIn p 0 1))) []) := by
  refine fspec tyOk mx Tryz.func86 rfl (by kernel_rfl) rfl ?_
  conv => whnf
  refine ⟨fun h => ?_, fun h => ?_⟩
  · conv => whnf
    refine ACall.use (allWithin_spec p _ _ (by omega)) ?_
    conv => whnf
    refine ⟨?_, rfl⟩
    rw [decide_eq_true (by simpa using h), Bool.true_and]
  · conv => whnf
    refine ⟨?_, rfl⟩
    rw [decide_eq_false (by simpa using h), Bool.false_and]

def isGP (x y : Int) (s : List Int) (m : List (List Int)) (p : List Int) : Bool := goodG x y s m && (decide ((p.length : Int) = W (x + y)) && rowIn p 0 1)
theorem isGP_spec {x y : Int} {s : List Int} {m : List (List Int)} {p : List Int} (h : isGP x y s m p = true) : ∃ a b : Nat, x = a ∧ y = b ∧ 1 ≤ a ∧ a ≤ 3 ∧ 1 ≤ b ∧ b ≤ 3 ∧ s.length = a * b ∧ m.length = a * b ∧ a * b ≤ 9 ∧
    (∀ v, v ∈ s → 0 ≤ v ∧ v ≤ 99) ∧ 0 < sumF s s.length ∧ (∀ r, r ∈ m → r.length = 4 ∧ ∀ v, v ∈ r → 0 ≤ v ∧ v ≤ 1) ∧ p.length = a + b ∧ (∀ v, v ∈ p → 0 ≤ v ∧ v ≤ 1) := by
  simp only [isGP, Bool.and_eq_true, decide_eq_true_eq, rowIn_iff] at h
  obtain ⟨h1, h2, h3⟩ := h
  obtain ⟨a, b, rfl, rfl, g1, g2, g3, g4, g5, g6, g7, g8, g9, g10⟩ := goodG_spec h1
  have e : W ((a : Int) + b) = ((a + b : Nat) : Int) := natAdd (by omega)
  rw [e] at h2
  exact ⟨a, b, rfl, rfl, g1, g2, g3, g4, g5, g6, g7, g8, g9, g10, by omega, h3⟩

def psF (x y : Int) (s : List Int) (m : List (List Int)) (p : List Int) : Int := if isGP x y s m p then scoreTo s m p x.toNat y.toNat x.toNat else 0

end Go.Proofs.YtkomndcehdneaaaGreat
/- The boxes of plays of any sizes: reference and program. -/
namespace Go.Aw
def pgN (play : List Int) (nx : Nat) (w : Int) (x y a b : Nat) : Int := if play.getD x 0 = a ∧ play.getD (nx + y) 0 = b then w else 0
def pgM (play : List Int) (nx ny : Nat) (w : Int) : List (List Int) := boxRows (pgN play nx w) nx ny
theorem pg_row {nx : Nat} {play : List Int} {w : Int} {i k p q : Nat} (hp : play.getD i 0 = p) (hq : play.getD (nx + k) 0 = q) (h1 : p < 2) (h2 : q < 2) : (List.replicate 4 (0 : Int)).set (2 * p + q) w = boxRow (pgN play nx w) i k := by
  unfold boxRow pgN
  rw [hp, hq]
  have h1 : p = 0 ∨ p = 1 := by omega
  have h2 : q = 0 ∨ q = 1 := by omega
  rcases h1 with rfl | rfl <;> rcases h2 with rfl | rfl <;> rfl
end Go.Aw
namespace Go.Proofs.YtkomndcehdneaaaGreat
open Go.Aw
set_option maxRecDepth 100000
set_option maxHeartbeats 4000000

theorem pgN_spec (nx ny : Nat) (h3 : nx ≤ 3) (h3' : ny ≤ 3) (play : List Int) (hl : play.length = nx + ny) (w : Int) (i k a b : Nat) (hi : i < nx) (hk : k < ny) :
    FSpec Tryz.prog 196 [.c (.int .i64 (i)), .c (.int .i64 (k)), .c (.int .i64 (a)), .c (.int .i64 (b)), .rp [.t (.ints .i64 play)] 0, .rp [.c (.int .i64 (nx))] 0, .rp [.c (.int .i64 (w))] 0] (ex (.c (.int .i64 (pgN play nx w i k a b))) []) := by
  have e : IntKind.i64.wrap ((nx : Int) + (k : Int)) = ((nx + k : Nat) : Int) := by rw [w64 (by omega) (by omega)]; omega
  refine fspec tyOk mx Tryz.func196 rfl (by kernel_rfl) rfl ?_
  conv => whnf
  refine ⟨i, rfl, by omega, ?_⟩
  conv => whnf
  refine ⟨fun h => ?_, fun h => ?_⟩
  · have h : play.getD i 0 = a := by simpa using h
    conv => whnf
    refine ⟨nx + k, e, by omega, ?_⟩
    conv => whnf
    refine ⟨fun h2 => ?_, fun h2 => ?_⟩
    · have h2 : play.getD (nx + k) 0 = b := by simpa using h2
      conv => whnf
      exact ⟨by rw [pgN, if_pos ⟨h, h2⟩], rfl⟩
    · have h2 : ¬ play.getD (nx + k) 0 = b := by simpa using h2
      conv => whnf
      exact ⟨by rw [pgN, if_neg (fun c => h2 c.2)], rfl⟩
  · have h : ¬ play.getD i 0 = a := by simpa using h
    conv => whnf
    (repeat (conv => whnf); (first | refine ⟨fun h => absurd h (by decide), fun _ => ?_⟩ | refine ⟨fun _ => ?_, fun h => absurd h (by decide)⟩)); conv => whnf
    exact ⟨by rw [pgN, if_neg (fun c => h c.1)], rfl⟩

theorem playBoxG_spec (nx ny : Nat) (h3 : nx ≤ 3) (h3' : ny ≤ 3) (play : List Int) (hl : play.length = nx + ny) (w : Int) :
    FSpec Tryz.prog 168 [.c (.int .i64 (nx)), .c (.int .i64 (ny)), .t (.ints .i64 play), .c (.int .i64 (w))] (ex (.ag [.c (.int .i64 (nx)), .c (.int .i64 (ny)), .c (.int .i64 (w)), .own 0]) [(0, .rows 38 3 true (pgM play nx ny w))]) := by
  refine fspec tyOk mx Tryz.func168 rfl (by kernel_rfl) rfl ?_
  conv => whnf
  refine ACall.use (newBox_spec nx ny w _ [.rp [.t (.ints .i64 play)] 0, .rp [.c (.int .i64 (nx))] 0, .rp [.c (.int .i64 (w))] 0] (pgN play nx w) (by omega) (by omega) (fun _ _ => rfl) rfl (fun i k' a b hi hk _ _ => pgN_spec nx ny h3 h3' play hl w i k' a b hi hk)) ?_
  conv => whnf
  exact ⟨rfl, rfl⟩

theorem l2PlayBoxG_spec (nx ny : Nat) (h3 : nx ≤ 3) (h3' : ny ≤ 3) (play : List Int) (hl : play.length = nx + ny) (h01 : ∀ v, v ∈ play → 0 ≤ v ∧ v ≤ 1) (w : Int) :
    FSpec Tryz.prog 157 [.c (.int .i64 (nx)), .c (.int .i64 (ny)), .t (.ints .i64 play), .c (.int .i64 (w))] (ex (.ag [.c (.int .i64 (nx)), .c (.int .i64 (ny)), .c (.int .i64 (w)), .own 0]) [(0, .rows 38 3 true (pgM play nx ny w))]) := by
  refine fspec tyOk mx Tryz.func157 rfl (by kernel_rfl) rfl ?_
  conv => whnf
  refine aloopI tyOk mx (fun i : Nat => (⟨51, [(0, .c (.int .i64 (nx))), (1, .c (.int .i64 (ny))), (2, .t (.ints .i64 play)), (3, .c (.int .i64 (w))), (8, .ptr 0 0), (9, .ptr 2 0), (10, .c (.int .i64 (i)))], [(0, .cells 26 [.c (.int .i64 (0)), .c (.int .i64 (0)), .c (.int .i64 (0)), .c (.slice none 0 0)]), (1, .rows 38 3 true (boxTo (pgN play nx w) ny i 0)), (2, .cells 26 [.c (.int .i64 (nx)), .c (.int .i64 (ny)), .c (.int .i64 (w)), .own 1])], 3⟩ : St)) (fun i => i ≤ nx) (fun i => nx - i) 0 (Nat.zero_le _) none (by refine ⟨rfl, rfl, ?_, ?_⟩ <;> ((repeat' (first | exact trivial | exact rfl | refine And.intro ?_ ?_)) <;> (try ((conv => whnf); first | refine vint ?_ | refine vboo ?_ | refine rint ?_ | refine rrow ?_ | skip)) <;> (try first | omega | (simp; done) | ((repeat rw [flts_closed _ (by assumption)]); exact vws_closed _ (by assumption))))) (fun i hi => ?_)
  refine ⟨fun h => ?_, fun h => ?_⟩
  · have h : i < nx := by have := of_decide_eq_true h; omega
    conv => whnf
    refine aloopI tyOk mx (fun k : Nat => (⟨51, [(0, .c (.int .i64 (nx))), (1, .c (.int .i64 (ny))), (2, .t (.ints .i64 play)), (3, .c (.int .i64 (w))), (8, .ptr 0 0), (9, .ptr 2 0), (10, .c (.int .i64 (i))), (11, .c (.int .i64 (k)))], [(0, .cells 26 [.c (.int .i64 (0)), .c (.int .i64 (0)), .c (.int .i64 (0)), .c (.slice none 0 0)]), (1, .rows 38 3 true (boxTo (pgN play nx w) ny i k)), (2, .cells 26 [.c (.int .i64 (nx)), .c (.int .i64 (ny)), .c (.int .i64 (w)), .own 1])], 3⟩ : St)) (fun k => k ≤ ny) (fun k => ny - k) 0 (Nat.zero_le _) none (by refine ⟨rfl, rfl, ?_, ?_⟩ <;> ((repeat' (first | exact trivial | exact rfl | refine And.intro ?_ ?_)) <;> (try ((conv => whnf); first | refine vint ?_ | refine vboo ?_ | refine rint ?_ | refine rrow ?_ | skip)) <;> (try first | omega | (simp; done) | ((repeat rw [flts_closed _ (by assumption)]); exact vws_closed _ (by assumption))))) (fun k hk => ?_)
    have hix : i * ny ≤ 3 * 3 := Nat.mul_le_mul (by omega) h3'
    have hlen := boxTo_len (pgN play nx w) ny i k
    refine ⟨fun h2 => ?_, fun h2 => ?_⟩
    · have h2 : k < ny := by have := of_decide_eq_true h2; omega
      have hp := h01 _ (getD_mem (d := 0) (show i < play.length by omega))
      have hq := h01 _ (getD_mem (d := 0) (show nx + k < play.length by omega))
      have e : IntKind.i64.wrap ((nx : Int) + (k : Int)) = ((nx + k : Nat) : Int) := by rw [w64 (by omega) (by omega)]; omega
      have e2 : IntKind.i64.wrap (IntKind.i64.wrap (2 * play.getD i 0) + play.getD (nx + k) 0) = ((2 * (play.getD i 0).toNat + (play.getD (nx + k) 0).toNat : Nat) : Int) := by
        rw [w64 (n := 2 * play.getD i 0) (by omega) (by omega), w64 (by omega) (by omega)]; omega
      conv => whnf
      refine ⟨4, rfl, rfl, by simp [room], ?_⟩
      conv => whnf
      refine ADraw.plan tyOk mx (.q 0 (.q 1 (.q 2 (.q 3 (.q 4 (.q 5 (.q 6 (.q 7 (.q 8 (.q 9 (.q 10 (.q 11 (.q 12 (.q 13 (.q 14 (.last 15 (.done)))))))))))))))) : Plan) (by kernel_rfl) ?_
      conv => whnf
      repeat' (first | (refine ⟨i, rfl, by omega, ?_⟩; conv => whnf) | (refine ⟨nx + k, e, by omega, ?_⟩; conv => whnf) | (refine ⟨2 * (play.getD i 0).toNat + (play.getD (nx + k) 0).toNat, e2, by rw [List.length_replicate]; omega, ?_⟩; conv => whnf) | (refine ⟨by simp [room]; omega, ?_⟩; conv => whnf) | (refine And.intro ?_ ?_ <;> (conv => whnf)))
      all_goals
        rw [nat_wrap (by omega)]
        refine ⟨k + 1, none, ?_, by omega, by omega⟩
        (refine ⟨rfl, rfl, ?_, ?_⟩ <;> ((repeat' (first | exact trivial | exact rfl | refine And.intro ?_ ?_)) <;> (try ((conv => whnf); first | refine vint ?_ | refine vboo ?_ | refine rint ?_ | refine rrow ?_ | skip)) <;> (try first | omega | (simp; done) | ((repeat rw [flts_closed _ (by assumption)]); exact vws_closed _ (by assumption)))))
        rw [← boxTo_row, ← pg_row (i := i) (k := k) (p := (play.getD i 0).toNat) (q := (play.getD (nx + k) 0).toNat) (by omega) (by omega) (by omega) (by omega)]
    · have h2 : ¬ k < ny := by have := of_decide_eq_false h2; omega
      obtain rfl : k = ny := by omega
      conv => whnf
      rw [nat_wrap (by omega)]
      refine ⟨i + 1, none, ?_, by omega, by omega⟩
      (refine ⟨rfl, rfl, ?_, ?_⟩ <;> ((repeat' (first | exact trivial | exact rfl | refine And.intro ?_ ?_)) <;> (try ((conv => whnf); first | refine vint ?_ | refine vboo ?_ | refine rint ?_ | refine rrow ?_ | skip)) <;> (try first | omega | (simp; done) | ((repeat rw [flts_closed _ (by assumption)]); exact vws_closed _ (by assumption)))))
      exact boxTo_end _ _ i
  · have h : ¬ i < nx := by have := of_decide_eq_false h; omega
    obtain rfl : i = nx := by omega
    conv => whnf
    exact ⟨rfl, by rw [boxTo_all]; rfl⟩

end Go.Proofs.YtkomndcehdneaaaGreat
/- Functionals of any sizes, worths: reference and program. -/
namespace Go.Proofs.YtkomndcehdneaaaGreat
open Go.Aw
set_option maxRecDepth 100000
set_option maxHeartbeats 4000000

/-- a functional for x and y questions -/
def fnG (x y : Int) (f : List (List Int)) : Bool := szOk x y && decide ((f.length : Int) = x * y) && f.all fnRow
theorem fnG_spec {x y : Int} {f : List (List Int)} (h : fnG x y f = true) : ∃ a b : Nat, x = a ∧ y = b ∧ 1 ≤ a ∧ a ≤ 3 ∧ 1 ≤ b ∧ b ≤ 3 ∧ f.length = a * b ∧ a * b ≤ 9 ∧ (∀ r, r ∈ f → r.length = 4) ∧ ∀ r, r ∈ f → ∀ v, v ∈ r → -99 ≤ v ∧ v ≤ 99 := by
  simp only [fnG, Bool.and_eq_true, decide_eq_true_eq, List.all_eq_true, fnRow, rowIn_iff] at h
  obtain ⟨⟨h1, h2⟩, h3⟩ := h
  obtain ⟨a, b, rfl, rfl, a1, a3, b1, b3, e, hab⟩ := szOk_nat h1
  exact ⟨a, b, rfl, rfl, a1, a3, b1, b3, by omega, hab, fun r hr => (h3 r hr).1, fun r hr => (h3 r hr).2⟩
theorem isFunctionalG_spec (x y : Int) (f : List (List Int)) (kf : SzM f) : FSpec Tryz.prog 78 [.c (.int .i64 (x)), .c (.int .i64 (y)), .t (.rows f)] (ex (.c (.bool (fnG x y f))) []) := by
  obtain ⟨k1, k2, k3⟩ := kf.all
  refine fspec tyOk mx Tryz.func78 rfl (by kernel_rfl) rfl ?_
  conv => whnf
  refine aloopI tyOk mx (fun i : Nat => (⟨35, [(0, .c (.int .i64 (x))), (1, .c (.int .i64 (y))), (2, .t (.rows f)), (9, .t (.rows f)), (10, .c (.int .i64 (f.length))), (11, .c (.int .i64 (i)))], [], 0⟩ : St)) (fun i => i ≤ f.length ∧ (f.take i).all fnRow = true) (fun i => f.length - i) 0 ⟨Nat.zero_le _, rfl⟩ none (by refine ⟨rfl, rfl, ?_, ?_⟩ <;> ((repeat' (first | exact trivial | exact rfl | refine And.intro ?_ ?_)) <;> (try ((conv => whnf); first | refine vint ?_ | refine vboo ?_ | refine rint ?_ | refine rrow ?_ | skip)) <;> (try first | omega | (simp; done) | ((repeat rw [flts_closed _ (by assumption)]); exact vws_closed _ (by assumption))))) (fun i hi => ?_)
  obtain ⟨hi, hp⟩ := hi
  refine ⟨fun h => ?_, fun h => ?_⟩
  · have h : i < f.length := by have := ltT h; omega
    have hri := k2 _ (getD_mem (d := []) h)
    conv => whnf
    refine ⟨i, rfl, h, ?_⟩
    conv => whnf
    refine ⟨fun h3 => ?_, fun h3 => ?_⟩
    · have h3 : (f.getD i []).length = 4 := by
        have : ((f.getD i []).length : Int) = 4 := by simpa using h3
        omega
      conv => whnf
      refine ACall.use (allWithin_spec (f.getD i []) _ _ (by omega)) ?_
      conv => whnf
      refine ⟨fun h4 => ?_, fun h4 => ?_⟩
      · have h4 : rowIn (f.getD i []) (-99) 99 = false := by simpa using h4
        conv => whnf
        refine ⟨?_, rfl⟩
        rw [fnG, all_false (d := []) h (by rw [fnRow, h4, Bool.and_false]), Bool.and_false]
      · have h4 : rowIn (f.getD i []) (-99) 99 = true := by simpa using h4
        conv => whnf
        rw [nat_wrap (by omega)]
        exact ⟨i + 1, none, (by refine ⟨rfl, rfl, ?_, ?_⟩ <;> ((repeat' (first | exact trivial | exact rfl | refine And.intro ?_ ?_)) <;> (try ((conv => whnf); first | refine vint ?_ | refine vboo ?_ | refine rint ?_ | refine rrow ?_ | skip)) <;> (try first | omega | (simp; done) | ((repeat rw [flts_closed _ (by assumption)]); exact vws_closed _ (by assumption))))), ⟨by omega, all_take_succ (d := []) h hp (by rw [fnRow, h4, decide_eq_true h3]; rfl)⟩, by omega⟩
    · have h3 : ¬ (f.getD i []).length = 4 := by
        intro e; rw [e] at h3; exact absurd h3 (by decide)
      conv => whnf
      (repeat (conv => whnf); (first | refine ⟨fun h => absurd h (by decide), fun _ => ?_⟩ | refine ⟨fun _ => ?_, fun h => absurd h (by decide)⟩)); conv => whnf
      refine ⟨?_, rfl⟩
      rw [fnG, all_false (d := []) h (by rw [fnRow, decide_eq_false h3, Bool.false_and]), Bool.and_false]
  · have h : ¬ i < f.length := by have := ltF h; omega
    have hall := all_end h hp
    conv => whnf
    refine ACall.use (areQuestions_spec x y) ?_
    conv => whnf
    refine ⟨fun hs => ?_, fun hs => ?_⟩
    · obtain ⟨a, b, rfl, rfl, _, a3, _, b3, exy, hab⟩ := szOk_nat hs
      have ew : IntKind.i64.wrap ((a : Int) * (b : Int)) = (a : Int) * b := by rw [exy]; exact w64 (by omega) (by omega)
      conv => whnf
      rw [ew]
      refine ⟨?_, rfl⟩
      rw [fnG, hall, Bool.and_true, hs, Bool.true_and]
      by_cases e : (f.length : Int) = (a : Int) * b
      · rw [decide_eq_true e]; simp [e]
      · rw [decide_eq_false e]; simp [e]
    · conv => whnf
      refine ⟨?_, rfl⟩
      rw [fnG, hs, Bool.false_and, Bool.false_and]

def woOk (x y z : Int) (m f : List (List Int)) : Bool := goodB x y z m && fnG x y f
def woV (x y z : Int) (m f : List (List Int)) : Int := if woOk x y z m f then worthF f m else 0
theorem WorthOf_i (x y z : Int) (m f : List (List Int)) (km : SzM m) (kf : SzM f) :
    FSpec Tryz.prog 35 [.t (.rows f), .ag [.c (.int .i64 (x)), .c (.int .i64 (y)), .c (.int .i64 (z)), .t (.rows m)]] (ex (.tu [.c (.int .i64 (woV x y z m f)), .c (.bool (woOk x y z m f))]) []) := by
  refine fspec tyOk mx Tryz.func35 rfl (by kernel_rfl) rfl ?_
  conv => whnf
  refine ACall.use (IsBox_spec x y z m km) ?_
  conv => whnf
  refine ⟨fun h => ?_, fun h => ?_⟩
  · conv => whnf
    refine ACall.use (isFunctionalG_spec x y f kf) ?_
    conv => whnf
    refine ⟨fun h2 => ?_, fun h2 => ?_⟩
    · have h2 : fnG x y f = false := by simpa using h2
      have e : woOk x y z m f = false := by rw [woOk, h2, Bool.and_false]
      conv => whnf
      exact ⟨by rw [woV, e]; rfl, rfl⟩
    · have h2 : fnG x y f = true := by simpa using h2
      have hg : goodB x y z m = true := by simpa using h
      have e : woOk x y z m f = true := by rw [woOk, hg, h2]; rfl
      obtain ⟨a, b, rfl, rfl, _, _, _, _, f1, _, f3, _⟩ := fnG_spec h2
      obtain ⟨a', b', ea, eb, _, _, _, _, _, _, g1, g2, g3⟩ := goodB_spec hg
      have ea : a = a' := by omega
      have eb : b = b' := by omega
      subst ea eb
      conv => whnf
      refine ACall.use (worth_spec f m (by rw [f1, g1]) (by omega) f3 (fun r hr => (g3 r hr).1)) ?_
      conv => whnf
      exact ⟨by rw [woV, e]; rfl, rfl⟩
  · have hg : goodB x y z m = false := by simpa using h
    have e : woOk x y z m f = false := by rw [woOk, hg, Bool.false_and]
    (repeat (conv => whnf); (first | refine ⟨fun h => absurd h (by decide), fun _ => ?_⟩ | refine ⟨fun _ => ?_, fun h => absurd h (by decide)⟩)); conv => whnf
    exact ⟨by rw [woV, e]; rfl, rfl⟩

theorem l2FunctionalG_spec (x y : Int) (f : List (List Int)) (kf : SzM f) : FSpec Tryz.prog 81 [.c (.int .i64 (x)), .c (.int .i64 (y)), .t (.rows f)] (ex (.c (.bool (fnG x y f))) []) := by
  obtain ⟨k1, k2, k3⟩ := kf.all
  refine fspec tyOk mx Tryz.func81 rfl (by kernel_rfl) rfl ?_
  conv => whnf
  refine ACall.use (l2Sizes_spec x y) ?_
  conv => whnf
  cases hs : szOk x y with
  | false =>
    (repeat (conv => whnf); (first | refine ⟨fun h => absurd h (by decide), fun _ => ?_⟩ | refine ⟨fun _ => ?_, fun h => absurd h (by decide)⟩)); conv => whnf
    refine ⟨?_, rfl⟩
    rw [fnG, hs, Bool.false_and, Bool.false_and]
  | true =>
  obtain ⟨a, b, ea, eb, _, a3, _, b3, exy, hab⟩ := szOk_nat hs
  have ew : IntKind.i64.wrap (x * y) = x * y := by rw [exy]; exact w64 (by omega) (by omega)
  (repeat (conv => whnf); (first | refine ⟨fun h => absurd h (by decide), fun _ => ?_⟩ | refine ⟨fun _ => ?_, fun h => absurd h (by decide)⟩)); conv => whnf
  rw [ew]
  refine ⟨fun h => ?_, fun h => ?_⟩
  · have h : ¬ (f.length : Int) = x * y := by
      intro e
      rw [e] at h
      simp at h
    conv => whnf
    refine ⟨?_, rfl⟩
    rw [fnG, decide_eq_false h, Bool.and_false, Bool.false_and]
  · have h0 : (f.length : Int) = x * y := by simpa using h
    clear h
    conv => whnf
    refine aloopI tyOk mx (fun i : Nat => (⟨51, [(2, .t (.rows f)), (7, .c (.int .i64 (i)))], [], 0⟩ : St)) (fun i => i ≤ f.length ∧ (f.take i).all fnRow = true) (fun i => f.length - i) 0 ⟨Nat.zero_le _, rfl⟩ none (by refine ⟨rfl, rfl, ?_, ?_⟩ <;> ((repeat' (first | exact trivial | exact rfl | refine And.intro ?_ ?_)) <;> (try ((conv => whnf); first | refine vint ?_ | refine vboo ?_ | refine rint ?_ | refine rrow ?_ | skip)) <;> (try first | omega | (simp; done) | ((repeat rw [flts_closed _ (by assumption)]); exact vws_closed _ (by assumption))))) (fun i hi => ?_)
    obtain ⟨hi, hp⟩ := hi
    refine ⟨fun h => ?_, fun h => ?_⟩
    · have h : i < f.length := by have := ltT h; omega
      have hri := k2 _ (getD_mem (d := []) h)
      conv => whnf
      refine aloopI tyOk mx (fun n : Nat => (⟨51, [(2, .t (.rows f)), (7, .c (.int .i64 (i))), (8, .c (.int .i64 (n)))], [], 0⟩ : St)) (fun n => n ≤ (f.getD i []).length ∧ ((f.getD i []).take n).all (fun x => inR x (-99) 99) = true) (fun n => (f.getD i []).length - n) 0 ⟨Nat.zero_le _, rfl⟩ none (by refine ⟨rfl, rfl, ?_, ?_⟩ <;> ((repeat' (first | exact trivial | exact rfl | refine And.intro ?_ ?_)) <;> (try ((conv => whnf); first | refine vint ?_ | refine vboo ?_ | refine rint ?_ | refine rrow ?_ | skip)) <;> (try first | omega | (simp; done) | ((repeat rw [flts_closed _ (by assumption)]); exact vws_closed _ (by assumption))))) (fun n hn => ?_)
      obtain ⟨hn, hq⟩ := hn
      refine ⟨i, rfl, h, ?_⟩
      conv => whnf
      refine ⟨fun h2 => ?_, fun h2 => ?_⟩
      · have h2 : n < (f.getD i []).length := by have := ltT h2; omega
        conv => whnf
        refine ⟨i, rfl, h, n, rfl, h2, ?_⟩
        conv => whnf
        refine ACall.use (l1In_spec _ _ _) ?_
        conv => whnf
        refine ⟨fun h3 => ?_, fun h3 => ?_⟩
        · have h3 : inR ((f.getD i []).getD n 0) (-99) 99 = false := by simpa using h3
          conv => whnf
          refine ⟨?_, rfl⟩
          rw [fnG, all_false (d := []) h (by rw [fnRow, rowIn, all_false (d := 0) h2 h3, Bool.and_false]), Bool.and_false]
        · have h3 : inR ((f.getD i []).getD n 0) (-99) 99 = true := by simpa using h3
          conv => whnf
          rw [nat_wrap (by omega)]
          exact ⟨n + 1, none, (by refine ⟨rfl, rfl, ?_, ?_⟩ <;> ((repeat' (first | exact trivial | exact rfl | refine And.intro ?_ ?_)) <;> (try ((conv => whnf); first | refine vint ?_ | refine vboo ?_ | refine rint ?_ | refine rrow ?_ | skip)) <;> (try first | omega | (simp; done) | ((repeat rw [flts_closed _ (by assumption)]); exact vws_closed _ (by assumption))))), ⟨by omega, all_take_succ (d := 0) h2 hq h3⟩, by omega⟩
      · have h2 : ¬ n < (f.getD i []).length := by have := ltF h2; omega
        have hrow : rowIn (f.getD i []) (-99) 99 = true := all_end h2 hq
        conv => whnf
        refine ⟨i, rfl, h, ?_⟩
        conv => whnf
        refine ⟨fun h3 => ?_, fun h3 => ?_⟩
        · have h3 : ¬ (f.getD i []).length = 4 := by
            intro e; rw [e] at h3; exact absurd h3 (by decide)
          conv => whnf
          refine ⟨?_, rfl⟩
          rw [fnG, all_false (d := []) h (by rw [fnRow, decide_eq_false h3, Bool.false_and]), Bool.and_false]
        · have h3 : (f.getD i []).length = 4 := by
            have : ((f.getD i []).length : Int) = 4 := by simpa using h3
            omega
          conv => whnf
          rw [nat_wrap (by omega)]
          exact ⟨i + 1, none, (by refine ⟨rfl, rfl, ?_, ?_⟩ <;> ((repeat' (first | exact trivial | exact rfl | refine And.intro ?_ ?_)) <;> (try ((conv => whnf); first | refine vint ?_ | refine vboo ?_ | refine rint ?_ | refine rrow ?_ | skip)) <;> (try first | omega | (simp; done) | ((repeat rw [flts_closed _ (by assumption)]); exact vws_closed _ (by assumption))))), ⟨by omega, all_take_succ (d := []) h hp (by rw [fnRow, hrow, decide_eq_true h3]; rfl)⟩, by omega⟩
    · have h : ¬ i < f.length := by have := ltF h; omega
      conv => whnf
      refine ⟨?_, rfl⟩
      rw [fnG, hs, decide_eq_true h0, all_end h hp]; rfl
end Go.Proofs.YtkomndcehdneaaaGreat
/- The worths of plays, and plays' boxes, of any sizes: reference and program. -/
namespace Go.Aw
theorem fo_flatG {α : Type} (f : α → Nat → α) (ny : Nat) (a : α) : ∀ n, fo (fun a i => fo (fun a k => f a (i * ny + k)) a ny) a n = fo f a (n * ny)
  | 0 => by rw [Nat.zero_mul]; rfl
  | n + 1 => by
    have ih := fo_flatG f ny a n
    show fo (fun a k => f a (n * ny + k)) (fo (fun a i => fo (fun a k => f a (i * ny + k)) a ny) a n) ny = _
    rw [ih, Nat.succ_mul]
    have h : ∀ k, fo (fun a k => f a (n * ny + k)) (fo f a (n * ny)) k = fo f a (n * ny + k) := fun k => by
      induction k with
      | zero => rfl
      | succ k ih => show f (fo (fun a k => f a (n * ny + k)) (fo f a (n * ny)) k) _ = _; rw [ih]; rfl
    exact h ny
theorem boxRows_row (num : Nat → Nat → Nat → Nat → Int) (ny : Nat) : ∀ nx {i k : Nat}, i < nx → k < ny → (boxRows num nx ny).getD (i * ny + k) [] = boxRow num i k
  | 0, i, k, hi, _ => absurd hi (Nat.not_lt_zero i)
  | n + 1, i, k, hi, hk => by
    have e : boxRows num (n + 1) ny = boxRows num n ny ++ (List.range ny).map (boxRow num n) := by
      simp [boxRows, List.range_succ]
    have hl := boxRows_len num n ny
    rw [e, List.getD_eq_getElem?_getD]
    by_cases h : i < n
    · have hlt : i * ny + k < n * ny := by
        have := Nat.mul_le_mul_right ny h
        rw [Nat.succ_mul] at this; omega
      rw [List.getElem?_append_left (by omega), ← List.getD_eq_getElem?_getD]
      exact boxRows_row num ny n h hk
    · obtain rfl : i = n := by omega
      rw [List.getElem?_append_right (by omega), hl, Nat.add_sub_cancel_left, ← List.getD_eq_getElem?_getD, range_getD hk]
theorem Wexp (x : Int) : W x = (x + 9223372036854775808) % 18446744073709551616 - 9223372036854775808 := by
  show IntKind.i64.wrap x = _
  rw [IntKind.wrap_i64]
theorem Wl (a b : Int) : W (W a + b) = W (a + b) := by simp only [Wexp]; omega
theorem Wr (a b : Int) : W (a + W b) = W (a + b) := by simp only [Wexp]; omega
theorem W0 : W 0 = 0 := rfl
theorem wRow_play {f m : List (List Int)} {j b : Nat} (h : m.getD j [] = (List.replicate 4 (0 : Int)).set b 1) (hb : b < 4) (a : Int) : wRow f m j a 4 = W (a + (f.getD j []).getD b 0) := by
  have e : wRow f m j a 4 = W (W (W (W (a + W ((f.getD j []).getD 0 0 * (m.getD j []).getD 0 0)) + W ((f.getD j []).getD 1 0 * (m.getD j []).getD 1 0)) + W ((f.getD j []).getD 2 0 * (m.getD j []).getD 2 0)) + W ((f.getD j []).getD 3 0 * (m.getD j []).getD 3 0)) := rfl
  rw [e, h]
  have h4 : b = 0 ∨ b = 1 ∨ b = 2 ∨ b = 3 := by omega
  rcases h4 with rfl | rfl | rfl | rfl <;> simp only [List.replicate, List.set, List.getD_cons_zero, List.getD_cons_succ, Int.mul_zero, Int.mul_one, W0, Int.add_zero, Wl, Wr, WW]
theorem pw_worth {f : List (List Int)} {p : List Int} {nx ny : Nat} (hp : ∀ v, v ∈ p → 0 ≤ v ∧ v ≤ 1) : worthF f (pgM p nx ny 1) = pwTo f p nx ny nx := by
  rw [worthF, wTo, pgM, boxRows_len, ← fo_flatG]
  refine fo_congr fun a i hi => fo_congr fun b k hk => ?_
  have h1 := bits_mem hp (i := i)
  have h2 := bits_mem hp (i := nx + k)
  refine wRow_play (b := bitIx p nx i k) ?_ (bitIx_eq hp nx i k).2 b
  rw [boxRows_row _ _ _ hi hk, ← pg_row (i := i) (k := k) (p := (p.getD i 0).toNat) (q := (p.getD (nx + k) 0).toNat) (by omega) (by omega) (by omega) (by omega)]
  congr 1
  unfold bitIx; omega
end Go.Aw
namespace Go.Proofs.YtkomndcehdneaaaGreat
open Go.Aw
set_option maxRecDepth 100000
set_option maxHeartbeats 4000000
def pyB (x y : Int) (p : List Int) : Bool := decide ((p.length : Int) = W (x + y)) && rowIn p 0 1
def pwOk (x y : Int) (f : List (List Int)) (p : List Int) : Bool := fnG x y f && pyB x y p
def pwV (x y : Int) (f : List (List Int)) (p : List Int) : Int := if pwOk x y f p then pwTo f p x.toNat y.toNat x.toNat else 0
theorem pyB_len {a b : Nat} {p : List Int} (h : pyB a b p = true) (ha : a ≤ 3) (hb : b ≤ 3) : p.length = a + b ∧ ∀ v, v ∈ p → 0 ≤ v ∧ v ≤ 1 := by
  simp only [pyB, Bool.and_eq_true, decide_eq_true_eq] at h
  obtain ⟨h1, h2⟩ := h
  rw [show W ((a : Int) + (b : Int)) = (a : Int) + b from w64 (by omega) (by omega)] at h1
  exact ⟨by omega, fun v hv => rowIn_iff.1 h2 v hv⟩
end Go.Proofs.YtkomndcehdneaaaGreat
/- The greatest worth of a play: reference and program. -/
namespace Go.Aw
/-- the greatest one of the first numbers -/
def lvN (w : Nat → Int) : Nat → Int
  | 0 => 0
  | k + 1 => if k = 0 ∨ w k > lvN w k then w k else lvN w k
theorem lvN_ge (w : Nat → Int) : ∀ k i, i < k → w i ≤ lvN w k
  | k + 1, i, h => by
    unfold lvN
    by_cases e : i = k
    · subst e; split <;> omega
    · have := lvN_ge w k i (by omega)
      split <;> omega
theorem lvN_own (w : Nat → Int) : ∀ k, 0 < k → ∃ i, i < k ∧ lvN w k = w i
  | k + 1, _ => by
    unfold lvN
    split
    · exact ⟨k, by omega, rfl⟩
    · rename_i h
      obtain ⟨i, hi, e⟩ := lvN_own w k (by omega)
      exact ⟨i, by omega, e⟩
/-- the worth of the i-th play -/
def pwI (f : List (List Int)) (nx ny i : Nat) : Int := pwTo f ((playsL (nx + ny)).getD i []) nx ny nx
def lvF (f : List (List Int)) (nx ny : Nat) : Int := lvN (pwI f nx ny) (2 ^ (nx + ny))
end Go.Aw
namespace Go.Proofs.YtkomndcehdneaaaGreat
open Go.Aw
set_option maxRecDepth 100000
set_option maxHeartbeats 4000000
def lvV (x y : Int) (f : List (List Int)) : Int := if fnG x y f then lvF f x.toNat y.toNat else 0
theorem localValue_spec (nx ny : Nat) (f : List (List Int)) (hx : nx ≤ 3) (hy : ny ≤ 3) (hf : f.length = nx * ny) (h4 : ∀ r, r ∈ f → r.length = 4) :
    FSpec Tryz.prog 80 [.c (.int .i64 (nx)), .c (.int .i64 (ny)), .t (.rows f)] (ex (.c (.int .i64 (lvF f nx ny))) []) := by
  have hl := playsL_len (nx + ny)
  have h64 := two_pow6 (n := nx + ny) (by omega)
  refine fspec tyOk mx Tryz.func80 rfl (by kernel_rfl) rfl ?_
  conv => whnf
  refine ACall.use (FSpec.toldL (plays_spec nx ny (by omega)) (x' := .t (.rows (playsL (nx + ny)))) ⟨rfl, rfl⟩) ?_
  conv => whnf
  refine aloopI tyOk mx (fun i : Nat => (⟨35, [(0, .c (.int .i64 (nx))), (1, .c (.int .i64 (ny))), (2, .t (.rows f)), (7, .c (.int .i64 (lvN (pwI f nx ny) i))), (13, .t (.rows (playsL (nx + ny)))), (14, .c (.int .i64 ((playsL (nx + ny)).length))), (15, .c (.int .i64 (i)))], [], 0⟩ : St)) (fun i => i ≤ (playsL (nx + ny)).length) (fun i => (playsL (nx + ny)).length - i) 0 (Nat.zero_le _) none (by refine ⟨rfl, rfl, ?_, ?_⟩ <;> ((repeat' (first | exact trivial | exact rfl | refine And.intro ?_ ?_)) <;> (try ((conv => whnf); first | refine vint ?_ | refine vboo ?_ | refine rint ?_ | refine rrow ?_ | skip)) <;> (try first | omega | (simp; done) | ((repeat rw [flts_closed _ (by assumption)]); exact vws_closed _ (by assumption))))) (fun i hi => ?_)
  refine ⟨fun h => ?_, fun h => ?_⟩
  · have h := ltT h
    obtain ⟨p1, p2⟩ := playsL_row (n := nx + ny) (by omega) h
    have eN : IntKind.i64.wrap ((i : Int) + 1) = ((i + 1 : Nat) : Int) := nat_wrap (by omega)
    have ew : pwTo f ((playsL (nx + ny)).getD i []) nx ny nx = pwI f nx ny i := rfl
    conv => whnf
    refine ⟨i, rfl, h, ?_⟩
    conv => whnf
    refine ACall.use (playWorth_spec nx ny f _ hx hy hf h4 p2 p1) ?_
    conv => whnf
    rw [ew]
    have hi0 : i = 0 ∨ ¬ i = 0 := by omega
    rcases hi0 with rfl | hi0
    · (repeat (conv => whnf); (first | refine ⟨fun h => absurd h (by decide), fun _ => ?_⟩ | refine ⟨fun _ => ?_, fun h => absurd h (by decide)⟩)); conv => whnf
      rw [eN]
      exact ⟨1, none, (by refine ⟨rfl, rfl, ?_, ?_⟩ <;> ((repeat' (first | exact trivial | exact rfl | refine And.intro ?_ ?_)) <;> (try ((conv => whnf); first | refine vint ?_ | refine vboo ?_ | refine rint ?_ | refine rrow ?_ | skip)) <;> (try first | omega | (simp; done) | ((repeat rw [flts_closed _ (by assumption)]); exact vws_closed _ (by assumption))))), by omega, by omega⟩
    · refine ⟨fun _ => ?_, fun h => absurd h (by simp; omega)⟩
      conv => whnf
      refine ⟨fun h5 => ?_, fun h5 => ?_⟩
      · have h5 : pwI f nx ny i > lvN (pwI f nx ny) i := of_decide_eq_true h5
        have e5 : lvN (pwI f nx ny) (i + 1) = pwI f nx ny i := by rw [lvN, if_pos (.inr h5)]
        conv => whnf
        rw [eN]
        refine ⟨i + 1, none, ?_, by omega, by omega⟩
        rw [e5]
        (refine ⟨rfl, rfl, ?_, ?_⟩ <;> ((repeat' (first | exact trivial | exact rfl | refine And.intro ?_ ?_)) <;> (try ((conv => whnf); first | refine vint ?_ | refine vboo ?_ | refine rint ?_ | refine rrow ?_ | skip)) <;> (try first | omega | (simp; done) | ((repeat rw [flts_closed _ (by assumption)]); exact vws_closed _ (by assumption)))))
      · have h5 : ¬ pwI f nx ny i > lvN (pwI f nx ny) i := of_decide_eq_false h5
        have e5 : lvN (pwI f nx ny) (i + 1) = lvN (pwI f nx ny) i := by rw [lvN, if_neg (by omega)]
        conv => whnf
        rw [eN]
        refine ⟨i + 1, none, ?_, by omega, by omega⟩
        rw [e5]
        (refine ⟨rfl, rfl, ?_, ?_⟩ <;> ((repeat' (first | exact trivial | exact rfl | refine And.intro ?_ ?_)) <;> (try ((conv => whnf); first | refine vint ?_ | refine vboo ?_ | refine rint ?_ | refine rrow ?_ | skip)) <;> (try first | omega | (simp; done) | ((repeat rw [flts_closed _ (by assumption)]); exact vws_closed _ (by assumption)))))
  · have h := ltF h
    obtain rfl : i = (playsL (nx + ny)).length := by omega
    conv => whnf
    refine ⟨?_, rfl⟩
    rw [lvF, hl]
theorem LocalValue_i (x y : Int) (f : List (List Int)) (kf : SzM f) : FSpec Tryz.prog 60 [.c (.int .i64 (x)), .c (.int .i64 (y)), .t (.rows f)] (ex (.tu [.c (.int .i64 (lvV x y f)), .c (.bool (fnG x y f))]) []) := by
  refine fspec tyOk mx Tryz.func60 rfl (by kernel_rfl) rfl ?_
  conv => whnf
  refine ACall.use (isFunctionalG_spec x y f kf) ?_
  conv => whnf
  refine ⟨fun h => ?_, fun h => ?_⟩
  · have h : fnG x y f = false := by simpa using h
    conv => whnf
    exact ⟨by rw [lvV, h]; rfl, rfl⟩
  · have h : fnG x y f = true := by simpa using h
    have h' := h
    obtain ⟨a, b, rfl, rfl, _, a3, _, b3, f1, _, f3, _⟩ := fnG_spec h'
    conv => whnf
    refine ACall.use (localValue_spec a b f a3 b3 f1 f3) ?_
    conv => whnf
    exact ⟨by rw [lvV, h, Int.toNat_natCast, Int.toNat_natCast]; rfl, rfl⟩
theorem l3Value_spec (nx ny : Nat) (f : List (List Int)) (hx : nx ≤ 3) (hy : ny ≤ 3) (hf : f.length = nx * ny) (h4 : ∀ r, r ∈ f → r.length = 4) :
    FSpec Tryz.prog 83 [.c (.int .i64 (nx)), .c (.int .i64 (ny)), .t (.rows f)] (ex (.c (.int .i64 (lvF f nx ny))) []) := by
  have hl := playsL_len (nx + ny)
  have h64 := two_pow6 (n := nx + ny) (by omega)
  have hn : nx * ny ≤ 3 * 3 := Nat.mul_le_mul hx hy
  refine fspec tyOk mx Tryz.func83 rfl (by kernel_rfl) rfl ?_
  conv => whnf
  refine ACall.use (FSpec.toldL (l2Plays_spec nx ny (by omega)) (x' := .t (.rows (playsL (nx + ny)))) ⟨rfl, rfl⟩) ?_
  conv => whnf
  refine aloopI tyOk mx (fun i : Nat => (⟨38, [(0, .c (.int .i64 (nx))), (1, .c (.int .i64 (ny))), (2, .t (.rows f)), (7, .t (.rows (playsL (nx + ny)))), (8, .c (.int .i64 (lvN (pwI f nx ny) i))), (9, .c (.int .i64 (i)))], [], 0⟩ : St)) (fun i => i ≤ (playsL (nx + ny)).length) (fun i => (playsL (nx + ny)).length - i) 0 (Nat.zero_le _) none (by refine ⟨rfl, rfl, ?_, ?_⟩ <;> ((repeat' (first | exact trivial | exact rfl | refine And.intro ?_ ?_)) <;> (try ((conv => whnf); first | refine vint ?_ | refine vboo ?_ | refine rint ?_ | refine rrow ?_ | skip)) <;> (try first | omega | (simp; done) | ((repeat rw [flts_closed _ (by assumption)]); exact vws_closed _ (by assumption))))) (fun i hi => ?_)
  refine ⟨fun h => ?_, fun h => ?_⟩
  · have h := ltT h
    obtain ⟨p1, p2⟩ := playsL_row (n := nx + ny) (by omega) h
    have eN : IntKind.i64.wrap ((i : Int) + 1) = ((i + 1 : Nat) : Int) := nat_wrap (by omega)
    have hm : (pgM ((playsL (nx + ny)).getD i []) nx ny 1).length = nx * ny := boxRows_len _ _ _
    have ew : worthF f (pgM ((playsL (nx + ny)).getD i []) nx ny 1) = pwI f nx ny i := pw_worth p2
    conv => whnf
    refine ⟨i, rfl, h, ?_⟩
    conv => whnf
    refine ACall.use (l2PlayBoxG_spec nx ny hx hy _ p1 p2 1) ?_
    conv => whnf
    refine ACall.use (l2Worth_spec f (pgM ((playsL (nx + ny)).getD i []) nx ny 1) nx ny 1 (by rw [hf, hm]) (by omega) h4 (boxRows_rows _ _ _)) ?_
    conv => whnf
    rw [ew]
    have hi0 : i = 0 ∨ ¬ i = 0 := by omega
    rcases hi0 with rfl | hi0
    · (repeat (conv => whnf); (first | refine ⟨fun h => absurd h (by decide), fun _ => ?_⟩ | refine ⟨fun _ => ?_, fun h => absurd h (by decide)⟩)); conv => whnf
      rw [eN]
      exact ⟨1, none, (by refine ⟨rfl, rfl, ?_, ?_⟩ <;> ((repeat' (first | exact trivial | exact rfl | refine And.intro ?_ ?_)) <;> (try ((conv => whnf); first | refine vint ?_ | refine vboo ?_ | refine rint ?_ | refine rrow ?_ | skip)) <;> (try first | omega | (simp; done) | ((repeat rw [flts_closed _ (by assumption)]); exact vws_closed _ (by assumption))))), by omega, by omega⟩
    · refine ⟨fun _ => ?_, fun h => absurd h (by simp; omega)⟩
      conv => whnf
      refine ⟨fun h5 => ?_, fun h5 => ?_⟩
      · have h5 : pwI f nx ny i > lvN (pwI f nx ny) i := of_decide_eq_true h5
        have e5 : lvN (pwI f nx ny) (i + 1) = pwI f nx ny i := by rw [lvN, if_pos (.inr h5)]
        conv => whnf
        rw [eN]
        refine ⟨i + 1, none, ?_, by omega, by omega⟩
        rw [e5]
        (refine ⟨rfl, rfl, ?_, ?_⟩ <;> ((repeat' (first | exact trivial | exact rfl | refine And.intro ?_ ?_)) <;> (try ((conv => whnf); first | refine vint ?_ | refine vboo ?_ | refine rint ?_ | refine rrow ?_ | skip)) <;> (try first | omega | (simp; done) | ((repeat rw [flts_closed _ (by assumption)]); exact vws_closed _ (by assumption)))))
      · have h5 : ¬ pwI f nx ny i > lvN (pwI f nx ny) i := of_decide_eq_false h5
        have e5 : lvN (pwI f nx ny) (i + 1) = lvN (pwI f nx ny) i := by rw [lvN, if_neg (by omega)]
        conv => whnf
        rw [eN]
        refine ⟨i + 1, none, ?_, by omega, by omega⟩
        rw [e5]
        (refine ⟨rfl, rfl, ?_, ?_⟩ <;> ((repeat' (first | exact trivial | exact rfl | refine And.intro ?_ ?_)) <;> (try ((conv => whnf); first | refine vint ?_ | refine vboo ?_ | refine rint ?_ | refine rrow ?_ | skip)) <;> (try first | omega | (simp; done) | ((repeat rw [flts_closed _ (by assumption)]); exact vws_closed _ (by assumption)))))
  · have h := ltF h
    obtain rfl : i = (playsL (nx + ny)).length := by omega
    conv => whnf
    refine ⟨?_, rfl⟩
    rw [lvF, hl]
end Go.Proofs.YtkomndcehdneaaaGreat
/- IsQuiet, AgreementsOf: the program. -/
namespace Go.Proofs.YtkomndcehdneaaaGreat
open Go.Aw
set_option maxRecDepth 100000
set_option maxHeartbeats 4000000

theorem IsQuiet_i (x y z : Int) (m : List (List Int)) (km : SzM m) : FSpec Tryz.prog 22 [.ag [.c (.int .i64 (x)), .c (.int .i64 (y)), .c (.int .i64 (z)), .t (.rows m)]] (ex (.tu [.c (.bool (quietB x y z m)), .c (.bool (goodB x y z m))]) []) := by
  refine fspec tyOk mx Tryz.func22 rfl (by kernel_rfl) rfl ?_
  conv => whnf
  refine ACall.use (IsBox_spec x y z m km) ?_
  conv => whnf
  refine ⟨fun h => ?_, fun h => ?_⟩
  · have h : goodB x y z m = false := by simpa using h
    conv => whnf
    exact ⟨by rw [quietB, h]; rfl, rfl⟩
  · have h : goodB x y z m = true := by simpa using h
    conv => whnf
    refine ACall.use (isQuiet_spec x y z m km) ?_
    conv => whnf
    exact ⟨by rw [h], rfl⟩
def agOf (x y z : Int) (m : List (List Int)) : List Int := if goodB x y z m then m.map agr else []
theorem AgreementsOf_i (x y z : Int) (m : List (List Int)) (km : SzM m) : FSpec Tryz.prog 59 [.ag [.c (.int .i64 (x)), .c (.int .i64 (y)), .c (.int .i64 (z)), .t (.rows m)]] (ex (.tu [.own 0, .c (.bool (goodB x y z m))]) [(0, .ints 3 .i64 (agOf x y z m))]) := by
  refine view_ints ?_
  refine fspec tyOk mx Tryz.func59 rfl (by kernel_rfl) rfl ?_
  conv => whnf
  refine ACall.use (IsBox_spec x y z m km) ?_
  conv => whnf
  refine ⟨fun h => ?_, fun h => ?_⟩
  · have h : goodB x y z m = false := by simpa using h
    conv => whnf
    exact .inl ⟨h, rfl, rfl⟩
  · have h : goodB x y z m = true := by simpa using h
    obtain ⟨_, _, _, _, _, _, _, _, _, _, hml, hab, hr⟩ := goodB_spec h
    conv => whnf
    have hlen : m.length ≤ 9 := by omega
    refine aloopI tyOk mx (fun k : Nat => (⟨25, [(4, .own 1), (12, .t (.rows m)), (13, .c (.int .i64 (m.length))), (14, .c (.int .i64 (k)))], [(0, .cells 26 [.c (.int .i64 (x)), .c (.int .i64 (y)), .c (.int .i64 (z)), .t (.rows m)]), (1, .ints 3 .i64 ((m.take k).map agr))], 2⟩ : St)) (fun k => k ≤ m.length) (fun k => m.length - k) 0 (Nat.zero_le _) none (by refine ⟨rfl, rfl, ?_, ?_⟩ <;> ((repeat' (first | exact trivial | exact rfl | refine And.intro ?_ ?_)) <;> (try ((conv => whnf); first | refine vint ?_ | refine vboo ?_ | refine rint ?_ | refine rrow ?_ | skip)) <;> (try first | omega | (simp; done) | ((repeat rw [flts_closed _ (by assumption)]); exact vws_closed _ (by assumption))))) (fun k hk => ?_)
    refine ⟨fun h2 => ?_, fun h2 => ?_⟩
    · have h2 : k < m.length := by have := ltT h2; omega
      have h4 := (hr _ (getD_mem (d := []) h2)).1
      conv => whnf
      refine ⟨k, rfl, h2, ?_⟩
      conv => whnf
      refine ACall.use (agreement_spec _ h4) ?_
      conv => whnf
      refine ⟨by simp [room]; omega, ?_⟩
      conv => whnf
      rw [nat_wrap (by omega)]
      have e : (m.take k).map agr ++ [agr (m.getD k [])] = (m.take (k + 1)).map agr := by
        rw [List.take_add_one, List.getElem?_eq_getElem h2, List.map_append, List.getD_eq_getElem?_getD, List.getElem?_eq_getElem h2]; rfl
      refine ⟨k + 1, none, ?_, by omega, by omega⟩
      (refine ⟨rfl, rfl, ?_, ?_⟩ <;> ((repeat' (first | exact trivial | exact rfl | refine And.intro ?_ ?_)) <;> (try ((conv => whnf); first | refine vint ?_ | refine vboo ?_ | refine rint ?_ | refine rrow ?_ | skip)) <;> (try first | omega | (simp; done) | ((repeat rw [flts_closed _ (by assumption)]); exact vws_closed _ (by assumption)))))
      exact e
    · have h2 : ¬ k < m.length := by have := ltF h2; omega
      conv => whnf
      refine .inr ⟨h, rfl, ?_⟩
      rw [List.take_of_length_le (by omega)]
end Go.Proofs.YtkomndcehdneaaaGreat
/- The law of sign games: what holds of their values. -/
namespace Go.Aw
/-- sums that wrap round -/
theorem fo_W (t : Nat → Int) (s : Int) (hs : W s = s) : ∀ n, fo (fun a i => W (a + t i)) s n = W (s + sm t n)
  | 0 => by show s = W (s + 0); rw [Int.add_zero, hs]
  | n + 1 => by
      show W (fo (fun a i => W (a + t i)) s n + t n) = W (s + (sm t n + t n))
      rw [fo_W t s hs n, Wadd1]
      congr 1; omega
theorem W_W (a : Int) : W (W a) = W a := by have := Wadd1 a 0; simpa using this
theorem fo_WW (t : Nat → Nat → Int) (ny : Nat) : ∀ n, fo (fun a i => fo (fun a k => W (a + t i k)) a ny) 0 n = W (sm (fun i => sm (t i) ny) n)
  | 0 => rfl
  | n + 1 => by
      show fo (fun a k => W (a + t n k)) (fo (fun a i => fo (fun a k => W (a + t i k)) a ny) 0 n) ny = _
      rw [fo_WW t ny n, fo_W _ _ (W_W _), Wadd1]
      rfl
theorem sm_ext0 {f : Nat → Int} {n : Nat} (hn : n ≤ 3) (h : ∀ i, n ≤ i → f i = 0) : sm f n = f 0 + f 1 + f 2 := by
  have : n = 0 ∨ n = 1 ∨ n = 2 ∨ n = 3 := by omega
  rcases this with rfl | rfl | rfl | rfl
  · have := h 0 (by omega); have := h 1 (by omega); have := h 2 (by omega); simp only [sm]; omega
  · have := h 1 (by omega); have := h 2 (by omega); simp only [sm]; omega
  · have := h 2 (by omega); simp only [sm]; omega
  · simp only [sm]; omega
theorem plays_mem6 {n : Nat} (h1 : 2 ≤ n) (h4 : n ≤ 6) {l : List Int} (hl : l.length = n) (hb : ∀ v, v ∈ l → v = 0 ∨ v = 1) : ∃ k, k < (playsL n).length ∧ (playsL n).getD k [] = l := by
  have key : l ∈ playsL n := by
    have k2 : ∀ a, a ∈ [(0 : Int), 1] → ∀ b, b ∈ [(0 : Int), 1] → [a, b] ∈ playsL 2 := by decide +kernel
    have k3 : ∀ a, a ∈ [(0 : Int), 1] → ∀ b, b ∈ [(0 : Int), 1] → ∀ c, c ∈ [(0 : Int), 1] → [a, b, c] ∈ playsL 3 := by decide +kernel
    have k4 : ∀ a, a ∈ [(0 : Int), 1] → ∀ b, b ∈ [(0 : Int), 1] → ∀ c, c ∈ [(0 : Int), 1] → ∀ d, d ∈ [(0 : Int), 1] → [a, b, c, d] ∈ playsL 4 := by decide +kernel
    have k5 : ∀ a, a ∈ [(0 : Int), 1] → ∀ b, b ∈ [(0 : Int), 1] → ∀ c, c ∈ [(0 : Int), 1] → ∀ d, d ∈ [(0 : Int), 1] → ∀ e, e ∈ [(0 : Int), 1] → [a, b, c, d, e] ∈ playsL 5 := by decide +kernel
    have k6 : ∀ a, a ∈ [(0 : Int), 1] → ∀ b, b ∈ [(0 : Int), 1] → ∀ c, c ∈ [(0 : Int), 1] → ∀ d, d ∈ [(0 : Int), 1] → ∀ e, e ∈ [(0 : Int), 1] → ∀ f, f ∈ [(0 : Int), 1] → [a, b, c, d, e, f] ∈ playsL 6 := by decide +kernel
    have q : ∀ x, x ∈ l → x ∈ [(0 : Int), 1] := fun x hx => by simpa using hb x hx
    have : n = 2 ∨ n = 3 ∨ n = 4 ∨ n = 5 ∨ n = 6 := by omega
    rcases this with rfl | rfl | rfl | rfl | rfl
    · match l, hl with
      | [a, b], _ => exact k2 a (q a (by simp)) b (q b (by simp))
    · match l, hl with
      | [a, b, c], _ => exact k3 a (q a (by simp)) b (q b (by simp)) c (q c (by simp))
    · match l, hl with
      | [a, b, c, d], _ => exact k4 a (q a (by simp)) b (q b (by simp)) c (q c (by simp)) d (q d (by simp))
    · match l, hl with
      | [a, b, c, d, e], _ => exact k5 a (q a (by simp)) b (q b (by simp)) c (q c (by simp)) d (q d (by simp)) e (q e (by simp))
    · match l, hl with
      | [a, b, c, d, e, f], _ => exact k6 a (q a (by simp)) b (q b (by simp)) c (q c (by simp)) d (q d (by simp)) e (q e (by simp)) f (q f (by simp))
  obtain ⟨x, hx, e⟩ := List.mem_iff_getElem.1 key
  exact ⟨x, hx, by rw [List.getD_eq_getElem?_getD, List.getElem?_eq_getElem hx, e]; rfl⟩
theorem mulC {x y : Int} (hx : -9 ≤ x ∧ x ≤ 9) (hy : -1000 ≤ y ∧ y ≤ 1000) : -9000 ≤ x * y ∧ x * y ≤ 9000 := by
  have : x = -9 ∨ x = -8 ∨ x = -7 ∨ x = -6 ∨ x = -5 ∨ x = -4 ∨ x = -3 ∨ x = -2 ∨ x = -1 ∨ x = 0 ∨ x = 1 ∨ x = 2 ∨ x = 3 ∨ x = 4 ∨ x = 5 ∨ x = 6 ∨ x = 7 ∨ x = 8 ∨ x = 9 := by omega
  rcases this with rfl | rfl | rfl | rfl | rfl | rfl | rfl | rfl | rfl | rfl | rfl | rfl | rfl | rfl | rfl | rfl | rfl | rfl | rfl <;> omega
theorem abV_le {t b : Int} (h : abV t ≤ b) : -b ≤ t ∧ t ≤ b := by unfold abV at h; split at h <;> omega
end Go.Aw
namespace Go.Proofs.YtkomndcehdneaaaGreat
open Go.Aw
set_option maxRecDepth 100000
set_option maxHeartbeats 4000000

theorem areS_sg {l : List Int} {n : Nat} : areS l n = true ↔ Sg n l := by
  simp only [areS, isSign, Bool.and_eq_true, List.all_eq_true, Bool.or_eq_true, beq_iff_eq, decide_eq_true_eq, Sg]
  constructor
  · rintro ⟨h1, h2⟩; exact ⟨by omega, h1⟩
  · rintro ⟨h1, h2⟩; exact ⟨h2, by omega⟩
theorem switchOk_sg {m : List (List Int)} {r p : List Int} (h : switchOk m r p = true) : goodM m = true ∧ Sg m.length r ∧ Sg (m.getD 0 []).length p := by
  simp only [switchOk, Bool.and_eq_true] at h
  exact ⟨h.1.1, areS_sg.1 h.1.2, areS_sg.1 h.2⟩
/-- switched: as good, with the same bias, and switched again as it was -/
theorem sg_switch {m : List (List Int)} {r p : List Int} (h : switchOk m r p = true) : goodM m = true ∧ goodM (switchRes m r p) = true ∧ biasOf (switchRes m r p) = biasOf m ∧ switchOk (switchRes m r p) r p = true ∧ switchRes (switchRes m r p) r p = m := by
  obtain ⟨hg, hr, hp⟩ := switchOk_sg h
  have e : switchRes m r p = switchR m r p := by rw [switchRes, if_pos h]
  have hg' := switchR_good hg hr hp
  have hs := switchB_shp m r p
  have hr' : Sg (switchR m r p).length r := by rw [hs.1]; exact hr
  have hp' : Sg ((switchR m r p).getD 0 []).length p := by rw [hs.2]; exact hp
  have h2 : switchOk (switchR m r p) r p = true := by
    rw [switchOk, hg', areS_sg.2 hr', areS_sg.2 hp']; rfl
  have back : switchR (switchR m r p) r p = m := by
    rw [switchR_mul hg hr hp hr hp]
    exact switchR_one hg (hr.mul hr) (hp.mul hp) hr.sq hp.sq
  rw [e]
  refine ⟨hg, hg', ?_, h2, by rw [switchRes, if_pos h2, back]⟩
  have le1 : biasOf (switchR m r p) ≤ biasOf m := by
    obtain ⟨a, b, ha, hb, e2⟩ := bias_at hg'
    rw [e2, SS_switch hg hr hp]
    rw [hs.1] at ha
    rw [hs.2] at hb
    exact bias_ge hg (hr.mul ha) (hp.mul hb)
  have le2 : biasOf m ≤ biasOf (switchR m r p) := by
    obtain ⟨a, b, ha, hb, e2⟩ := bias_at hg
    have q := SS_switch hg' (r := r) (p := p) (a := a) (b := b) hr hp
    rw [back] at q
    rw [e2, q]
    refine bias_ge hg' ?_ ?_
    · rw [hs.1]; exact hr.mul ha
    · rw [hs.2]; exact hp.mul hb
  omega

/-- signs of answers -/
def sgOfP (p : List Int) (o n : Nat) : List Int := (List.range n).map fun i => 1 - 2 * p.getD (o + i) 0
theorem sgOfP_at {p : List Int} {o n i : Nat} (h : i < n) : (sgOfP p o n).getD i 0 = 1 - 2 * p.getD (o + i) 0 := range_getD h
theorem sgOfP_sg {p : List Int} (hp : ∀ v, v ∈ p → 0 ≤ v ∧ v ≤ 1) (o n : Nat) : Sg n (sgOfP p o n) := by
  refine ⟨by simp [sgOfP], fun x hx => ?_⟩
  obtain ⟨i, _, rfl⟩ := List.mem_map.1 hx
  have := bits_mem hp (i := o + i)
  omega
/-- answers with given signs -/
def plOf (r q : List Int) : List Int := r.map (fun x => if x = 1 then 0 else 1) ++ q.map (fun x => if x = 1 then 0 else 1)
theorem plOf_01 (r q : List Int) : ∀ v, v ∈ plOf r q → v = 0 ∨ v = 1 := by
  intro v hv
  rcases List.mem_append.1 hv with h | h <;>
    (obtain ⟨x, _, rfl⟩ := List.mem_map.1 h; split <;> simp)
theorem map_gd {l : List Int} {f : Int → Int} {i : Nat} (h : i < l.length) : (l.map f).getD i 0 = f (l.getD i 0) := by
  simp [List.getD, h]
theorem plOf_r {n k : Nat} {r q : List Int} (hr : Sg n r) (hq : Sg k q) : sgOfP (plOf r q) 0 n = r ∧ sgOfP (plOf r q) n k = q := by
  have hh : ∀ x : Int, x = 1 ∨ x = -1 → 1 - 2 * (if x = 1 then (0 : Int) else 1) = x := by
    rintro x (rfl | rfl) <;> decide
  constructor
  · refine List.ext_getElem (by simp [sgOfP, hr.1]) fun i h1 h2 => ?_
    have hi : i < n := by rw [← hr.1]; exact h2
    have e1 : (sgOfP (plOf r q) 0 n)[i] = (sgOfP (plOf r q) 0 n).getD i 0 := by simp [List.getD, h1]
    have e2 : r[i] = r.getD i 0 := by simp [List.getD, h2]
    have e3 : (plOf r q).getD (0 + i) 0 = (r.map (fun x => if x = 1 then (0 : Int) else 1)).getD i 0 := by
      rw [Nat.zero_add, plOf, List.getD_eq_getElem?_getD, List.getElem?_append_left (by simpa using h2), ← List.getD_eq_getElem?_getD]
    rw [e1, e2, sgOfP_at hi, e3, map_gd h2]
    exact hh _ (hr.get hi)
  · refine List.ext_getElem (by simp [sgOfP, hq.1]) fun i h1 h2 => ?_
    have hi : i < k := by rw [← hq.1]; exact h2
    have e1 : (sgOfP (plOf r q) n k)[i] = (sgOfP (plOf r q) n k).getD i 0 := by simp [List.getD, h1]
    have e2 : q[i] = q.getD i 0 := by simp [List.getD, h2]
    have e3 : (plOf r q).getD (n + i) 0 = (q.map (fun x => if x = 1 then (0 : Int) else 1)).getD i 0 := by
      rw [plOf, List.getD_eq_getElem?_getD, List.getElem?_append_right (by simp [hr.1]), ← List.getD_eq_getElem?_getD, List.length_map, hr.1, Nat.add_sub_cancel_left]
    rw [e1, e2, sgOfP_at hi, e3, map_gd h2]
    exact hh _ (hq.get hi)

theorem fnAt_bit {n a b : Int} (hn : -9 ≤ n ∧ n ≤ 9) (ha : 0 ≤ a ∧ a ≤ 1) (hb : 0 ≤ b ∧ b ≤ 1) : (fnAt n).getD (2 * a + b).toNat 0 = n * (1 - 2 * a) * (1 - 2 * b) := by
  have h1 : a = 0 ∨ a = 1 := by omega
  have h2 : b = 0 ∨ b = 1 := by omega
  have e : W (0 - n) = -n := by rw [W_id (by omega) (by omega)]; omega
  rcases h1 with rfl | rfl <;> rcases h2 with rfl | rfl
  · show n = _; omega
  · show W (0 - n) = _; rw [e]; omega
  · show W (0 - n) = _; rw [e]; omega
  · show n = _; omega
theorem SS_wid {m : List (List Int)} (hg : goodM m = true) (r p : List Int) : SS m r p = sm (fun x => sm (fun y => (m.getD x []).getD y 0 * r.getD x 0 * p.getD y 0) (m.getD 0 []).length) m.length :=
  sm_congr fun x hx => by rw [good_wid hg hx]
/-- the worth of a play with the functional of a sign game -/
theorem pw_sg {m : List (List Int)} (hg : goodM m = true) {p : List Int} (hp : ∀ v, v ∈ p → 0 ≤ v ∧ v ≤ 1) :
    pwTo (functionalL m) p m.length (m.getD 0 []).length m.length = SS m (sgOfP p 0 m.length) (sgOfP p m.length (m.getD 0 []).length) := by
  obtain ⟨g1, g2, g3, g4, g5⟩ := goodM_spec hg
  have e1 : pwTo (functionalL m) p m.length (m.getD 0 []).length m.length = fo (fun a i => fo (fun a k => W (a + (m.getD i []).getD k 0 * (sgOfP p 0 m.length).getD i 0 * (sgOfP p m.length (m.getD 0 []).length).getD k 0)) a (m.getD 0 []).length) 0 m.length := by
    refine fo_congr fun a i hi => fo_congr fun b k hk => ?_
    congr 2
    have e := flat_getD fnAt (m.getD 0 []).length [] m i k (fun r hr => (g5 r hr).1) hi hk
    have e' : (functionalL m).getD (i * (m.getD 0 []).length + k) [] = fnAt ((m.getD i []).getD k 0) := e
    rw [e', sgOfP_at hi, sgOfP_at hk, Nat.zero_add]
    exact fnAt_bit (good_at hg i k) (bits_mem hp) (bits_mem hp)
  rw [e1, fo_WW, ← SS_wid hg]
  have := (sumW_eq hg (sgOfP_sg hp 0 m.length).un (sgOfP_sg hp m.length (m.getD 0 []).length).un).2
  exact W_id (by omega) (by omega)
/-- the greatest worth of a play with the functional of a sign game is its bias -/
theorem sg_value {m : List (List Int)} (hg : goodM m = true) : lvF (functionalL m) m.length (m.getD 0 []).length = biasOf m := by
  obtain ⟨g1, g2, g3, g4, g5⟩ := goodM_spec hg
  have hpl := fun i (hi : i < 2 ^ (m.length + (m.getD 0 []).length)) => playsL_row (n := m.length + (m.getD 0 []).length) (x := i) (by omega) (by rw [playsL_len]; exact hi)
  have le1 : lvF (functionalL m) m.length (m.getD 0 []).length ≤ biasOf m := by
    obtain ⟨i, hi, e⟩ := lvN_own (pwI (functionalL m) m.length (m.getD 0 []).length) (2 ^ (m.length + (m.getD 0 []).length)) (Nat.pos_of_ne_zero (by simp))
    rw [lvF, e, pwI, pw_sg hg (hpl i hi).2]
    exact bias_ge hg (sgOfP_sg (hpl i hi).2 _ _) (sgOfP_sg (hpl i hi).2 _ _)
  have le2 : biasOf m ≤ lvF (functionalL m) m.length (m.getD 0 []).length := by
    obtain ⟨r, q, hr, hq, e⟩ := bias_at hg
    obtain ⟨i, hi, ei⟩ := plays_mem6 (n := m.length + (m.getD 0 []).length) (by omega) (by omega) (l := plOf r q) (by simp [plOf, hr.1, hq.1]) (plOf_01 r q)
    rw [playsL_len] at hi
    have h := lvN_ge (pwI (functionalL m) m.length (m.getD 0 []).length) _ i hi
    have e2 : pwI (functionalL m) m.length (m.getD 0 []).length i = SS m r q := by
      rw [pwI, pw_sg hg (hpl i hi).2, ei, (plOf_r hr hq).1, (plOf_r hr hq).2]
    rw [e2] at h
    rw [e, lvF]; exact h
  omega
theorem sg_len (m : List (List Int)) (n : Nat) (h : ∀ r, r ∈ m → r.length = n) : (functionalL m).length = m.length * n := by
  induction m with
  | nil => simp [functionalL]
  | cons a m ih =>
    have h1 := h a (by simp)
    have h2 := ih fun r hr => h r (by simp [hr])
    simp only [functionalL, List.flatMap_cons, List.length_append, sfRow, List.length_map, List.length_cons] at h2 ⊢
    rw [Nat.succ_mul]; omega
theorem sg_fn {m : List (List Int)} (hg : goodM m = true) : fnG m.length (m.getD 0 []).length (functionalL m) = true := by
  obtain ⟨g1, g2, g3, g4, g5⟩ := goodM_spec hg
  have hl := sg_len m (m.getD 0 []).length fun r hr => (g5 r hr).1
  simp only [fnG, szOk, inR, Bool.and_eq_true, decide_eq_true_eq, List.all_eq_true]
  refine ⟨⟨⟨⟨by omega, by omega⟩, by omega, by omega⟩, by rw [hl]; simp⟩, fun r hr => ?_⟩
  obtain ⟨row, hrow, h⟩ := List.mem_flatMap.1 hr
  obtain ⟨n, hn, rfl⟩ := List.mem_map.1 h
  have hb := (g5 row hrow).2 n hn
  have e : W (0 - n) = -n := by rw [W_id (by omega) (by omega)]; omega
  simp only [fnRow, fnAt, e, Bool.and_eq_true, decide_eq_true_eq, rowIn_iff]
  refine ⟨rfl, fun v hv => ?_⟩
  simp only [List.mem_cons, List.not_mem_nil, or_false] at hv
  omega
theorem sg_local {m : List (List Int)} (hg : goodM m = true) : lvV m.length (m.getD 0 []).length (functionalL m) = biasOf m := by
  rw [lvV, if_pos (sg_fn hg)]
  exact sg_value hg
theorem sg_sum {m : List (List Int)} (hg : goodM m = true) : sumTo m (bestRr m) (bestPr m) m.length = biasOf m := by
  rw [bestRr, bestPr, biasOf, if_pos hg, if_pos hg, if_pos hg]; rfl
theorem sg_best {m : List (List Int)} (hg : goodM m = true) : (bestRr m).length = m.length ∧ (bestPr m).length = (m.getD 0 []).length := by
  obtain ⟨g1, g2, g3, g4, g5⟩ := goodM_spec hg
  have h := outI_lt (m := m) (R := sgR m) (P := sgP m) (by rw [sgR, signsL_len]; exact two_pow_pos _) (by rw [sgP, signsL_len]; exact two_pow_pos _) (sgR m).length (Nat.le_refl _)
  rw [bestRr, bestPr, if_pos hg, if_pos hg]
  exact ⟨(sg_row g1 g2 h.1).1, (sg_row g3 g4 h.2).1⟩
theorem half_sum {m : List (List Int)} (hg : goodM m = true) {r p : List Int} (hr : Sg m.length r) (hp : Sg (m.getD 0 []).length p) :
    4 * SS m (halfL r) (halfL p) = SS m r p + SS m r (List.replicate (m.getD 0 []).length 1) + SS m (List.replicate m.length 1) p + SS m (List.replicate m.length 1) (List.replicate (m.getD 0 []).length 1) := by
  rw [SS_wid hg, SS_wid hg, SS_wid hg, SS_wid hg, SS_wid hg, ← sm_mul, ← sm_add, ← sm_add, ← sm_add]
  refine sm_congr fun x hx => ?_
  rw [← sm_mul, ← sm_add, ← sm_add, ← sm_add]
  refine sm_congr fun y hy => ?_
  have h1 := (half_at hr x).1
  have h2 := (half_at hp y).1
  rw [if_pos hx] at h1
  rw [if_pos hy] at h2
  rw [rep_getD hx, rep_getD hy]
  generalize (m.getD x []).getD y 0 = g
  rcases hr.get hx with e1 | e1 <;> rcases hp.get hy with e2 | e2 <;> rw [e1] at h1 ⊢ <;> rw [e2] at h2 ⊢
  · rw [show (halfL r).getD x 0 = 1 by omega, show (halfL p).getD y 0 = 1 by omega]; omega
  · rw [show (halfL r).getD x 0 = 1 by omega, show (halfL p).getD y 0 = 0 by omega]; omega
  · rw [show (halfL r).getD x 0 = 0 by omega, show (halfL p).getD y 0 = 1 by omega]; omega
  · rw [show (halfL r).getD x 0 = 0 by omega, show (halfL p).getD y 0 = 0 by omega]; omega
theorem SS_neg {m : List (List Int)} (hg : goodM m = true) {r p : List Int} (hr : Sg m.length r) : SS m (r.map fun x => -x) p = - SS m r p := by
  rw [SS_wid hg, SS_wid hg]
  have e : ∀ f : Nat → Int, ∀ n, - sm f n = sm (fun i => -1 * f i) n := fun f n => by rw [sm_mul]; omega
  rw [e]
  refine sm_congr fun x hx => ?_
  rw [← sm_mul]
  refine sm_congr fun y hy => ?_
  rw [map_gd (by rw [hr.1]; exact hx)]
  generalize (m.getD x []).getD y 0 = g
  generalize p.getD y 0 = q
  rcases hr.get hx with e1 | e1 <;> rw [e1] <;> simp [Int.neg_mul]
theorem half_le {m : List (List Int)} (hg : goodM m = true) {r p : List Int} (hr : Sg m.length r) (hp : Sg (m.getD 0 []).length p) :
    SS m (halfL r) (halfL p) ≤ biasOf m ∧ - SS m (halfL r) (halfL p) ≤ biasOf m := by
  have e := half_sum hg hr hp
  have o1 := Sg.one m.length
  have o2 := Sg.one (m.getD 0 []).length
  have h1 := bias_ge hg hr hp
  have h2 := bias_ge hg hr o2
  have h3 := bias_ge hg o1 hp
  have h4 := bias_ge hg o1 o2
  have n1 := bias_ge hg hr.neg hp
  have n2 := bias_ge hg hr.neg o2
  have n3 := bias_ge hg o1.neg hp
  have n4 := bias_ge hg o1.neg o2
  rw [SS_neg hg hr] at n1 n2
  rw [SS_neg hg o1] at n3 n4
  omega
theorem cutIn_le2 (m : List (List Int)) (r : List Int) (P : Nat → List Int) (acc B : Int) (h0 : acc ≤ B) : ∀ b, (∀ k, k < b → sumW m r (P k) ≤ B ∧ W (0 - sumW m r (P k)) ≤ B) → cutIn m r P acc b ≤ B
  | 0, _ => h0
  | b + 1, hk => by
      have h1 := cutIn_le2 m r P acc B h0 b fun k hb => hk k (by omega)
      have := hk b (by omega)
      rw [cutIn_succ, cutStep]; omega
theorem cutOut_le2 (m : List (List Int)) (R P : Nat → List Int) (nP : Nat) (B : Int) (h0 : 0 ≤ B) : ∀ a, (∀ j, j < a → ∀ k, k < nP → sumW m (R j) (P k) ≤ B ∧ W (0 - sumW m (R j) (P k)) ≤ B) → cutOut m R P nP a ≤ B
  | 0, _ => h0
  | a + 1, hk => by
      have h1 := cutOut_le2 m R P nP B h0 a fun j hj => hk j (by omega)
      have e1 : cutOut m R P nP (a + 1) = cutIn m (R a) P (cutOut m R P nP a) nP := rfl
      rw [e1]
      exact cutIn_le2 m (R a) P _ B h1 nP (hk a (by omega))
theorem sg_cut {m : List (List Int)} (hg : goodM m = true) : cutOf m ≤ biasOf m ∧ biasOf m ≤ 4 * cutOf m ∧ (0 ≤ biasOf m ∧ biasOf m ≤ 81) := by
  obtain ⟨g1, g2, g3, g4, g5⟩ := goodM_spec hg
  have o1 := Sg.one m.length
  have o2 := Sg.one (m.getD 0 []).length
  have n0 : 0 ≤ biasOf m := by
    have h4 := bias_ge hg o1 o2
    have n4 := bias_ge hg o1.neg o2
    rw [SS_neg hg o1] at n4
    omega
  refine ⟨?_, bias_cut hg, n0, (bias_le hg).2⟩
  rw [cutOf, if_pos hg, ← cut_eq m hg, cutRef]
  refine cutOut_le2 _ _ _ _ _ n0 _ fun j hj k hk => ?_
  have hr : Sg m.length ((sgR m).getD j []) := sg_row g1 g2 (by rw [signsL_len]; exact hj)
  have hp : Sg (m.getD 0 []).length ((sgP m).getD k []) := sg_row g3 g4 (by rw [signsL_len]; exact hk)
  obtain ⟨e, h1, h2⟩ := sumW_eq hg (half_un hr) (half_un hp)
  rw [e, W_id (by omega) (by omega)]
  have := half_le hg hr hp
  omega

/-- what a sum over a box's agreements computes -/
def agS (g bm : List (List Int)) (ny n : Nat) : Int := fo (fun a i => W (a + W ((g.getD (i / ny) []).getD (i % ny) 0 * (bm.map agr).getD i 0))) 0 n
theorem sg_agS {g bm : List (List Int)} {nx ny : Nat} (hb : bm.length = nx * ny) : agS g bm ny (nx * ny) = swTo g bm ny nx := by
  unfold agS swTo
  rw [← fo_flat]
  refine fo_congr fun a i hi => fo_congr fun b k hk => ?_
  have hlt := ix_lt hi hk
  have e1 : (i * ny + k) / ny = i := by rw [Nat.mul_comm, Nat.mul_add_div (by omega), Nat.div_eq_of_lt hk, Nat.add_zero]
  have e2 : (i * ny + k) % ny = k := by rw [Nat.mul_comm, Nat.mul_add_mod, Nat.mod_eq_of_lt hk]
  have e3 : (bm.map agr).getD (i * ny + k) 0 = agr (bm.getD (i * ny + k) []) := by simp [List.getD, show i * ny + k < bm.length by omega]
  rw [swC, e1, e2, e3]
theorem ag_le {z : Int} {m : List (List Int)} (hz : z ≤ 1000) (h0 : 0 ≤ z) (hm : ∀ r, r ∈ m → r.length = 4 ∧ (∀ v, v ∈ r → 0 ≤ v ∧ v ≤ z) ∧ sumF r r.length = z) (p : Nat) : -z ≤ agAt m p ∧ agAt m p ≤ z := by
  unfold agAt
  by_cases hp : p < m.length
  · obtain ⟨h1, h2, h3⟩ := hm _ (getD_mem (d := []) hp)
    obtain ⟨a, b, c, d, e, ha, hb, hc, hd, hs⟩ := row4 hz h1 h2 h3
    rw [e]
    have e1 : agr [a, b, c, d] = W (W (W (a - b) - c) + d) := rfl
    rw [e1, W_id (n := a - b) (by omega) (by omega), W_id (n := a - b - c) (by omega) (by omega), W_id (n := a - b - c + d) (by omega) (by omega)]
    omega
  · rw [getD_out hp]
    have : agr [] = 0 := rfl
    omega
theorem sg_worth {g : List (List Int)} {x y z : Int} {bm : List (List Int)} (h : swOk g x y z bm = true) :
    ∃ nx ny : Nat, x = nx ∧ y = ny ∧ nx = g.length ∧ ny = (g.getD 0 []).length ∧ goodM g = true ∧ goodB nx ny z bm = true ∧ swV g x y z bm = sm (fun i => sm (fun k => (g.getD i []).getD k 0 * agAt bm (i * ny + k)) ny) nx ∧
      (-81000 ≤ swV g x y z bm ∧ swV g x y z bm ≤ 81000) ∧ (Go.Aw.Loc nx ny z bm → swV g x y z bm ≤ z * biasOf g) := by
  have h' := h
  simp only [swOk, Bool.and_eq_true, decide_eq_true_eq] at h
  obtain ⟨⟨⟨hg, hb⟩, hx⟩, hy⟩ := h
  obtain ⟨g1, g2, g3, g4, g5⟩ := goodM_spec hg
  obtain ⟨nx, ny, rfl, rfl, x1, x3, y1, y3, z1, z2, q7, q8, q9⟩ := goodB_spec hb
  have hx : nx = g.length := by omega
  have hy : ny = (g.getD 0 []).length := by omega
  have hag := ag_le (by omega) (by omega) q9
  have tb : ∀ i k, -9000 ≤ (g.getD i []).getD k 0 * agAt bm (i * ny + k) ∧ (g.getD i []).getD k 0 * agAt bm (i * ny + k) ≤ 9000 := fun i k => by
    exact mulC (good_at hg i k) (by have := hag (i * ny + k); omega)
  have hsum : sm (fun i => sm (fun k => (g.getD i []).getD k 0 * agAt bm (i * ny + k)) ny) nx = sm (fun i => sm (fun k => (g.getD i []).getD k 0 * agAt bm (i * ny + k)) ny) nx := rfl
  have b1 : ∀ i, -27000 ≤ sm (fun k => (g.getD i []).getD k 0 * agAt bm (i * ny + k)) ny ∧ sm (fun k => (g.getD i []).getD k 0 * agAt bm (i * ny + k)) ny ≤ 27000 := fun i => by
    have := sm_bd (b := 9000) (n := ny) (f := fun k => (g.getD i []).getD k 0 * agAt bm (i * ny + k)) (fun k _ => tb i k)
    omega
  have b2 := sm_bd (b := 27000) (n := nx) (f := fun i => sm (fun k => (g.getD i []).getD k 0 * agAt bm (i * ny + k)) ny) (fun i _ => b1 i)
  have e : swV g nx ny z bm = sm (fun i => sm (fun k => (g.getD i []).getD k 0 * agAt bm (i * ny + k)) ny) nx := by
    rw [swV, if_pos h', ← hx, ← hy]
    have e1 : swTo g bm ny nx = fo (fun a i => fo (fun a k => W (a + (g.getD i []).getD k 0 * agAt bm (i * ny + k))) a ny) 0 nx :=
      fo_congr fun a i _ => fo_congr fun b k _ => by
        show W (b + W _) = _
        rw [Wadd2]; rfl
    rw [e1, fo_WW]
    exact W_id (by omega) (by omega)
  refine ⟨nx, ny, rfl, rfl, hx, hy, hg, hb, e, by rw [e]; constructor <;> omega, fun hl => ?_⟩
  have c0 : ∀ i j, (fun i j => if i < nx ∧ j < ny then agAt bm (i * ny + j) else 0 : Nat → Nat → Int) i j = if i < nx ∧ j < ny then agAt bm (i * ny + j) else 0 := fun _ _ => rfl
  generalize (fun i j => if i < nx ∧ j < ny then agAt bm (i * ny + j) else 0 : Nat → Nat → Int) = c at c0
  have cb : ∀ i j, -z ≤ c i j ∧ c i j ≤ z := fun i j => by
    rw [c0]; split
    · exact hag _
    · omega
  have four : ∀ a b d e', a < b → b < nx → d < e' → e' < ny → ∀ s : Int, s = 1 ∨ s = -1 →
      (c a d + c a e' + c b d - c b e' ≤ 2 * z ∧ c a d + c a e' - c b d + c b e' ≤ 2 * z ∧ c a d - c a e' + c b d + c b e' ≤ 2 * z ∧ -c a d + c a e' + c b d + c b e' ≤ 2 * z) ∧
      (-c a d - c a e' - c b d + c b e' ≤ 2 * z ∧ -c a d - c a e' + c b d - c b e' ≤ 2 * z ∧ -c a d + c a e' - c b d - c b e' ≤ 2 * z ∧ c a d - c a e' - c b d - c b e' ≤ 2 * z) := by
    intro a b d e' h1 h2 h3 h4 _ _
    have k0 := abV_le (hl.sums a b d e' 0 h1 h2 h3 h4 (by omega))
    have k1 := abV_le (hl.sums a b d e' 1 h1 h2 h3 h4 (by omega))
    have k2 := abV_le (hl.sums a b d e' 2 h1 h2 h3 h4 (by omega))
    have k3 := abV_le (hl.sums a b d e' 3 h1 h2 h3 h4 (by omega))
    simp only [sum4V, sgn, if_true, show (0 : Nat) ≠ 1 by omega, show (0 : Nat) ≠ 2 by omega, show (0 : Nat) ≠ 3 by omega, show (1 : Nat) ≠ 0 by omega, show (1 : Nat) ≠ 2 by omega, show (1 : Nat) ≠ 3 by omega, show (2 : Nat) ≠ 0 by omega, show (2 : Nat) ≠ 1 by omega, show (2 : Nat) ≠ 3 by omega, show (3 : Nat) ≠ 0 by omega, show (3 : Nat) ≠ 1 by omega, show (3 : Nat) ≠ 2 by omega, if_false] at k0 k1 k2 k3
    rw [c0, c0, c0, c0, if_pos ⟨by omega, by omega⟩, if_pos ⟨by omega, by omega⟩, if_pos ⟨by omega, by omega⟩, if_pos ⟨by omega, by omega⟩]
    omega
  have hch : Ch z c := by
    intro a b d e' _ _ _ _
    have b1 := cb a d; have b2 := cb a e'; have b3 := cb b d; have b4 := cb b e'
    by_cases ab : a = b
    · subst ab; omega
    by_cases de : d = e'
    · subst de; omega
    by_cases ra : a < nx ∧ b < nx
    · by_cases rd : d < ny ∧ e' < ny
      · rcases Nat.lt_or_gt_of_ne ab with h1 | h1 <;> rcases Nat.lt_or_gt_of_ne de with h2 | h2
        · have := four a b d e' h1 ra.2 h2 rd.2 1 (.inl rfl); omega
        · have := four a b e' d h1 ra.2 h2 rd.1 1 (.inl rfl); omega
        · have := four b a d e' h1 ra.1 h2 rd.2 1 (.inl rfl); omega
        · have := four b a e' d h1 ra.1 h2 rd.1 1 (.inl rfl); omega
      · have : (c a d = 0 ∧ c b d = 0) ∨ (c a e' = 0 ∧ c b e' = 0) := by
          by_cases hd : d < ny
          · exact .inr ⟨by rw [c0, if_neg (by omega)], by rw [c0, if_neg (by omega)]⟩
          · exact .inl ⟨by rw [c0, if_neg (by omega)], by rw [c0, if_neg (by omega)]⟩
        omega
    · have : (c a d = 0 ∧ c a e' = 0) ∨ (c b d = 0 ∧ c b e' = 0) := by
        by_cases ha : a < nx
        · exact .inr ⟨by rw [c0, if_neg (by omega)], by rw [c0, if_neg (by omega)]⟩
        · exact .inl ⟨by rw [c0, if_neg (by omega)], by rw [c0, if_neg (by omega)]⟩
      omega
  have out1 : ∀ i k, nx ≤ i → (g.getD i []).getD k 0 = 0 := fun i k hi => by rw [getD_out (l := g) (by omega)]; exact getD_out (by simp)
  have out2 : ∀ i k, ny ≤ k → (g.getD i []).getD k 0 = 0 := fun i k hk => by
    by_cases hi : i < g.length
    · exact getD_out (by rw [good_wid hg hi]; omega)
    · exact out1 i k (by omega)
  have key := k33 hch (fun i j _ _ => cb i j) (fun i j => (g.getD i []).getD j 0) (top := biasOf g) (fun r s hr hs => by
    have hb := bias_ge hg (r := (List.range g.length).map r) (p := (List.range (g.getD 0 []).length).map s)
      ⟨by simp, fun v hv => by obtain ⟨i, _, rfl⟩ := List.mem_map.1 hv; exact hr i⟩ ⟨by simp, fun v hv => by obtain ⟨i, _, rfl⟩ := List.mem_map.1 hv; exact hs i⟩
    rw [SS_wid hg, ← hx, ← hy] at hb
    have ee : sm (fun i => sm (fun k => (g.getD i []).getD k 0 * ((List.range nx).map r).getD i 0 * ((List.range ny).map s).getD k 0) ny) nx = sm (fun i => r i * sm (fun k => (g.getD i []).getD k 0 * s k) ny) nx := by
      refine sm_congr fun i hi => ?_
      rw [← sm_mul]
      refine sm_congr fun k hk => ?_
      rw [range_getD hi, range_getD hk, Int.mul_comm ((g.getD i []).getD k 0) (r i), Int.mul_assoc]
    rw [ee, sm_ext0 x3 (fun i hi => by rw [sm_congr (g := fun _ => 0) (fun k _ => by rw [out1 i k hi, Int.zero_mul]), sm_zero, Int.mul_zero])] at hb
    rw [sm_ext0 y3 (fun k hk => by rw [out2 0 k hk, Int.zero_mul]), sm_ext0 y3 (fun k hk => by rw [out2 1 k hk, Int.zero_mul]), sm_ext0 y3 (fun k hk => by rw [out2 2 k hk, Int.zero_mul])] at hb
    exact hb)
  have ee : sm (fun i => sm (fun k => (g.getD i []).getD k 0 * agAt bm (i * ny + k)) ny) nx = sm (fun i => sm (fun k => (g.getD i []).getD k 0 * c i k) ny) nx := by
    refine sm_congr fun i hi => sm_congr fun k hk => ?_
    rw [c0, if_pos ⟨hi, hk⟩]
  rw [e, ee, sm_ext0 x3 (fun i hi => by rw [sm_congr (g := fun _ => 0) (fun k _ => by rw [out1 i k hi, Int.zero_mul]), sm_zero])]
  rw [sm_ext0 y3 (fun k hk => by rw [out2 0 k hk, Int.zero_mul]), sm_ext0 y3 (fun k hk => by rw [out2 1 k hk, Int.zero_mul]), sm_ext0 y3 (fun k hk => by rw [out2 2 k hk, Int.zero_mul])]
  exact key
end Go.Proofs.YtkomndcehdneaaaGreat
/- Calls that write a variable of their caller which also holds what is read-only. -/
namespace Go.Aw
open Go.RowKit

def tcells : List AVal → Bool
  | [] => true
  | .c _ :: r => tcells r
  | .t _ :: r => tcells r
  | _ => false

def tRow : ARow → Bool
  | .cells _ (x :: l) => tcells (x :: l)
  | _ => false

/-- plain values, what is read-only, and the place of the variable -/
def pargs : List AVal → List AVal → Bool
  | [], [] => true
  | .c _ :: l, .c _ :: r => pargs l r
  | .ptr _ _ :: l, .ptr 0 0 :: r => pargs l r
  | .t _ :: l, .t _ :: r => pargs l r
  | _, _ => false

mutual
/-- a result told of what is read-only: rows of the call's own (but the variable, key 0) are given away as read-only -/
def clv (hp : List (Nat × ARow)) : AVal → Option AVal
  | .c v => some (.c v)
  | .t t => some (.t t)
  | .own k => match k with
    | 0 => none
    | k + 1 => match look hp (k + 1) with
      | some r => match closeRow r with
        | some t => some (.t t)
        | none => none
      | none => none
  | .ag l => match clvs hp l with
    | some l' => some (.ag l')
    | none => none
  | .tu l => match clvs hp l with
    | some l' => some (.tu l')
    | none => none
  | _ => none
def clvs (hp : List (Nat × ARow)) : List AVal → Option (List AVal)
  | [] => some []
  | a :: r => match clv hp a with
    | none => none
    | some b => match clvs hp r with
      | none => none
      | some r' => some (b :: r')
end

mutual
def shut : AVal → Bool
  | .c _ => true
  | .t _ => true
  | .ag l => shuts l
  | .tu l => shuts l
  | _ => false
def shuts : List AVal → Bool
  | [] => true
  | a :: r => shut a && shuts r
end

def resx (l : List AVal) : AVal :=
  match l with
  | [x] => x
  | l => .tu l

section
variable {P : Program} {Γ : Tys} {w0 : Base} {w w' : World} {ob : Nat → Prop} {st : St} {a : Act} {η : Env}

mutual
theorem shut_rep {bad bad' : Nat → Prop} {hp hp' : List (Nat × ARow)} {nx nx' : Nat} {η η' : Env} (hk : Keeps w bad w' bad') : ∀ (x : AVal) {v : Value}, shut x = true → VRep w bad hp nx η x v → VRep w' bad' hp' nx' η' x v
  | .c _, _, _, hv => hv
  | .t _, _, _, hv => TRep.keeps hk hv
  | .ag l, _, h, ⟨cs, e, hv⟩ => ⟨cs, e, shuts_rep hk l (by simpa [shut] using h) hv⟩
  | .tu l, _, h, ⟨cs, e, hv⟩ => ⟨cs, e, shuts_rep hk l (by simpa [shut] using h) hv⟩
  | .un, _, h, _ => by simp [shut] at h
  | .own _, _, h, _ => by simp [shut] at h
  | .sub _ _, _, h, _ => by simp [shut] at h
  | .ptr _ _, _, h, _ => by simp [shut] at h
  | .subp _ _ _, _, h, _ => by simp [shut] at h
  | .adr _ _, _, h, _ => by simp [shut] at h
  | .rp _ _, _, h, _ => by simp [shut] at h
  | .clo _ _, _, h, _ => by simp [shut] at h
  | .knot _ _ _, _, h, _ => by simp [shut] at h
  | .nul, _, h, _ => by simp [shut] at h
theorem shuts_rep {bad bad' : Nat → Prop} {hp hp' : List (Nat × ARow)} {nx nx' : Nat} {η η' : Env} (hk : Keeps w bad w' bad') : ∀ (l : List AVal) {vs : List Value}, shuts l = true → VReps w bad hp nx η l vs → VReps w' bad' hp' nx' η' l vs
  | [], [], _, _ => trivial
  | x :: l, v :: vs, h, hv => by
    simp only [shuts, Bool.and_eq_true] at h
    exact ⟨shut_rep hk x h.1 hv.1, shuts_rep hk l h.2 hv.2⟩
  | [], _ :: _, _, h => h.elim
  | _ :: _, [], _, h => h.elim
end

mutual
theorem clv_shut {hp : List (Nat × ARow)} : ∀ (x : AVal) {y : AVal}, clv hp x = some y → shut y = true ∧ vw hp [(0, .row 0)] 1 x y
  | .c v, y, h => by simp only [clv, Option.some.injEq] at h; subst h; exact ⟨rfl, rfl⟩
  | .t t, y, h => by simp only [clv, Option.some.injEq] at h; subst h; exact ⟨rfl, rfl⟩
  | .own 0, y, h => by simp [clv] at h
  | .own (k + 1), y, h => by
    simp only [clv] at h
    split at h
    · rename_i r hr
      split at h
      · rename_i t ht
        simp only [Option.some.injEq] at h
        subst h
        refine ⟨rfl, ?_⟩
        show keyIn (k + 1) [(0, Org.row 0)] = false ∧ (match look hp (k + 1) with | some r => closeRow r = some t | none => False)
        rw [hr]
        exact ⟨rfl, ht⟩
      · cases h
    · cases h
  | .ag l, y, h => by
    simp only [clv] at h
    split at h
    · rename_i l' hl
      simp only [Option.some.injEq] at h
      subst h
      obtain ⟨h1, h2⟩ := clvs_shut l hl
      exact ⟨by simpa [shut] using h1, h2⟩
    · cases h
  | .tu l, y, h => by
    simp only [clv] at h
    split at h
    · rename_i l' hl
      simp only [Option.some.injEq] at h
      subst h
      obtain ⟨h1, h2⟩ := clvs_shut l hl
      exact ⟨by simpa [shut] using h1, h2⟩
    · cases h
  | .un, _, h => by simp [clv] at h
  | .sub _ _, _, h => by simp [clv] at h
  | .ptr _ _, _, h => by simp [clv] at h
  | .subp _ _ _, _, h => by simp [clv] at h
  | .adr _ _, _, h => by simp [clv] at h
  | .rp _ _, _, h => by simp [clv] at h
  | .clo _ _, _, h => by simp [clv] at h
  | .knot _ _ _, _, h => by simp [clv] at h
  | .nul, _, h => by simp [clv] at h
theorem clvs_shut {hp : List (Nat × ARow)} : ∀ (l : List AVal) {l' : List AVal}, clvs hp l = some l' → shuts l' = true ∧ vws hp [(0, .row 0)] 1 l l'
  | [], l', h => by simp only [clvs, Option.some.injEq] at h; subst h; exact ⟨rfl, trivial⟩
  | x :: l, l', h => by
    simp only [clvs] at h
    split at h
    · cases h
    · rename_i y hy
      split at h
      · cases h
      · rename_i r' hr
        simp only [Option.some.injEq] at h
        subst h
        obtain ⟨a1, a2⟩ := clv_shut x hy
        obtain ⟨b1, b2⟩ := clvs_shut l hr
        exact ⟨by simp [shuts, a1, b1], a2, b2⟩
end

theorem tcells_vws {hp : List (Nat × ARow)} {R : List (Nat × Org)} {nx : Nat} : ∀ {l : List AVal}, tcells l = true → vws hp R nx l l
  | [], _ => trivial
  | .c _ :: l, h => ⟨rfl, tcells_vws (l := l) (by simpa [tcells] using h)⟩
  | .t _ :: l, h => ⟨rfl, tcells_vws (l := l) (by simpa [tcells] using h)⟩
  | .un :: _, h => by simp [tcells] at h
  | .ag _ :: _, h => by simp [tcells] at h
  | .tu _ :: _, h => by simp [tcells] at h
  | .own _ :: _, h => by simp [tcells] at h
  | .sub _ _ :: _, h => by simp [tcells] at h
  | .ptr _ _ :: _, h => by simp [tcells] at h
  | .subp _ _ _ :: _, h => by simp [tcells] at h
  | .adr _ _ :: _, h => by simp [tcells] at h
  | .rp _ _ :: _, h => by simp [tcells] at h
  | .clo _ _ :: _, h => by simp [tcells] at h
  | .knot _ _ _ :: _, h => by simp [tcells] at h
  | .nul :: _, h => by simp [tcells] at h

theorem resx_rep {bad : Nat → Prop} {hp : List (Nat × ARow)} {nx : Nat} {η : Env} : ∀ {l : List AVal} {us : List Value}, VReps w bad hp nx η l us → VRep w bad hp nx η (resx l) (if hh : us.toArray.size = 1 then us.toArray[0] else .tuple us.toArray)
  | [x], [u], h => by rw [dif_pos (by rfl)]; exact h.1
  | [], [], h => by rw [dif_neg (by simp)]; exact ⟨_, rfl, h⟩
  | x :: y :: l, u :: v :: us, h => by rw [dif_neg (by simp)]; exact ⟨_, rfl, h⟩
  | [_], [], h => h.elim
  | [_], _ :: _ :: _, h => h.2.elim
  | [], _ :: _, h => h.elim
  | _ :: _ :: _, [], h => h.elim
  | _ :: _ :: _, [_], h => h.2.elim

theorem tcells_rep {bad bad' : Nat → Prop} {hp hp' : List (Nat × ARow)} {nx nx' : Nat} {η η' : Env} (hk : Keeps w bad w bad') : ∀ {l : List AVal} {vs : List Value}, tcells l = true → VReps w bad hp nx η l vs → VReps w bad' hp' nx' η' l vs
  | [], [], _, _ => trivial
  | .c _ :: l, _ :: vs, h, hv => ⟨hv.1, tcells_rep hk (l := l) (by simpa [tcells] using h) hv.2⟩
  | .t _ :: l, _ :: vs, h, hv => ⟨TRep.keeps hk hv.1, tcells_rep hk (l := l) (by simpa [tcells] using h) hv.2⟩
  | [], _ :: _, _, h => h.elim
  | .c _ :: _, [], _, h => h.elim
  | .t _ :: _, [], _, h => h.elim
  | .un :: _, _, h, _ => by simp [tcells] at h
  | .ag _ :: _, _, h, _ => by simp [tcells] at h
  | .tu _ :: _, _, h, _ => by simp [tcells] at h
  | .own _ :: _, _, h, _ => by simp [tcells] at h
  | .sub _ _ :: _, _, h, _ => by simp [tcells] at h
  | .ptr _ _ :: _, _, h, _ => by simp [tcells] at h
  | .subp _ _ _ :: _, _, h, _ => by simp [tcells] at h
  | .adr _ _ :: _, _, h, _ => by simp [tcells] at h
  | .rp _ _ :: _, _, h, _ => by simp [tcells] at h
  | .clo _ _ :: _, _, h, _ => by simp [tcells] at h
  | .knot _ _ _ :: _, _, h, _ => by simp [tcells] at h
  | .nul :: _, _, h, _ => by simp [tcells] at h

theorem pargs_rep {badS bad bad' : Nat → Prop} {hpS hp : List (Nat × ARow)} {nxS nx nx' : Nat} {ηS η1 : Env} {R : List (Nat × Org)} (hk : Keeps w badS w bad') : ∀ (l l0 : List AVal) (vs : List Value), pargs l l0 = true → vws hpS R nx' l l0 →
    VReps w badS hpS nxS ηS l vs → VReps w bad hp nx η1 l0 vs → VReps w bad' hp nx η1 l0 vs
  | l, l0, vs, h, hv, hs, h0 => by
    unfold pargs at h
    split at h
    · cases vs with
      | nil => trivial
      | cons => exact h0.elim
    · cases vs with
      | nil => exact h0.elim
      | cons v vs => exact ⟨h0.1, pargs_rep hk _ _ vs h hv.2 hs.2 h0.2⟩
    · cases vs with
      | nil => exact h0.elim
      | cons v vs => exact ⟨h0.1, pargs_rep hk _ _ vs h hv.2 hs.2 h0.2⟩
    · rename_i t l t' r
      cases vs with
      | nil => exact h0.elim
      | cons v vs =>
        have e : t = t' := hv.1
        subst e
        exact ⟨TRep.keeps hk hs.1, pargs_rep hk _ _ vs h hv.2 hs.2 h0.2⟩
    · cases h
termination_by l => l.length

/-- A FUNCTION THAT WRITES A VARIABLE OF ITS CALLER (key 0), in which read-only slices may stand: it hands back a plain value -/
def TSpec (P : Program) (f : FuncId) (r0 : ARow) (args : List AVal) (post : AVal → ARow → Prop) : Prop := FOk P f ∧
  ∀ (w : World) (B : Nat) (ob : Nat → Prop) (η : Env) (vs : List Value), B ≤ w.heap.size → (∀ b, ob b → b < w.heap.size) → (∀ b, b ∈ bsOf η 0 r0 → ¬ ob b) →
    HRep w B ob [(0, r0)] 1 η → VReps w (badOf ob [(0, r0)] η) [(0, r0)] 1 η args vs →
    Calls P f vs.toArray w fun e w' => ∃ v x r' η', e = .returned v ∧ VRep w' (badOf ob [(0, r')] η') [] 0 η0 x v ∧ shut x = true ∧ post x r' ∧ Below B w w' ∧
      (∀ b, b < w.heap.size → b ∉ bsOf η 0 r0 → w'.heap[b]? = w.heap[b]?) ∧ tRow r' = true ∧ RowRep w' B (badOf ob [(0, r')] η') [(0, r')] 1 η' 0 r' ∧ (bsOf η' 0 r').Nodup ∧
      (∀ b, b ∈ bsOf η' 0 r' → b ∈ bsOf η 0 r0 ∨ w.heap.size ≤ b) ∧ r'.kind = r0.kind ∧ η'.val 0 = η.val 0 ∧ (η'.cel 0).length = (η.cel 0).length

def tfin (sz : Nat) (r0 : ARow) (post : AVal → ARow → Prop) (st : St) (l : List AVal) : Prop :=
  match clv st.hp (resx l) with
  | some x => match look st.sl sz with
    | some g => match look st.hp 0 with
      | some r' => match Nat.beq r'.kind r0.kind && isGhost r' g && tRow r' && sameLen r0 r' && Nat.beq st.sz sz with
        | true => post x r'
        | false => False
      | none => False
    | none => False
  | none => False

def tend (Γ : Tys) (rs : List ResultVar) (sz : Nat) (r0 : ARow) (post : AVal → ARow → Prop) : Exit → St → Prop
  | .ret, st => ares Γ st rs (tfin sz r0 post st)
  | .normal, st => ares Γ st rs (tfin sz r0 post st)
  | _, _ => False

theorem tspec (hΓ : TysOk P Γ) (hm : P.follows .mixedOrders = true) {f : FuncId} {fn : Func} {c : Code} {r0 : ARow} {args : List AVal} {post : AVal → ARow → Prop} (hf : P.funcs[f]? = some fn) (hb : fn.body = some c)
    (hname : (fn.name == "runtime.NumGoroutine") = false) (hn : Nat.ble args.length fn.ntmps = true) (hg : tRow r0 = true)
    (h : acode P Γ c ⟨fn.ntmps, (fn.ntmps, ghostOf r0) :: initSl 0 args, [(0, r0)], 1⟩ (tend Γ fn.results.toList fn.ntmps r0 post)) : TSpec P f r0 args post := by
  refine ⟨⟨fn, hf, hname, by rw [hb]; rfl⟩, fun w B ob η vs hB hobl hfree hh hvs => ?_⟩
  refine calls_of_wp hf hb ?_
  have hle := Nat.le_of_ble_eq_true hn
  have hlen := VReps.length hvs
  have hr0 : look [(0, r0)] 0 = some r0 := rfl
  have hrow0 := hh.row 0 r0 hr0
  have hone : ∀ k r, look [(0, r0)] k = some r → k = 0 ∧ r = r0 := fun k r hk => by
    rw [look_cons] at hk
    split at hk
    · rename_i h0; exact ⟨h0.symm, (Option.some.inj hk).symm⟩
    · cases hk
  let γ : Nat → Value := fun i => if i = fn.ntmps then η.val 0 else undef
  let W0 : Base := ⟨w, B, fun b => b ∈ bsOf η 0 r0, γ⟩
  have hs : SRep W0 ob ⟨fn.ntmps, (fn.ntmps, ghostOf r0) :: initSl 0 args, [(0, r0)], 1⟩ { tmps := vs.toArray ++ Array.replicate (fn.ntmps - vs.toArray.size) undef, defers := [] } w η := by
    have hsz : (vs.toArray ++ Array.replicate (fn.ntmps - vs.toArray.size) undef).size = fn.ntmps := by simp; omega
    refine ⟨rfl, hsz, Below.refl _ _, ⟨hB, hobl, hfree⟩, fun _ _ _ => rfl, fun b ⟨k, r, hk, hb⟩ => ?_, hh, fun i x hi => ?_⟩
    · obtain ⟨rfl, rfl⟩ := hone k r hk; exact .inl hb
    · simp only at hi
      rw [look_cons] at hi
      split at hi
      · rename_i hni
        subst hni
        have hx := Option.some.inj hi
        subst hx
        have hget : (vs.toArray ++ Array.replicate (fn.ntmps - vs.toArray.size) undef).getD fn.ntmps (W0.γ fn.ntmps) = η.val 0 := by
          have : W0.γ fn.ntmps = η.val 0 := if_pos rfl
          rw [Array.getD_eq_getD_getElem?, Array.getElem?_eq_none (by rw [hsz]; exact Nat.le_refl _), this]; rfl
        rw [hget]
        match r0, hg, hrow0, hone with
        | .ints .., hg, _, _ => simp [tRow] at hg
        | .rows .., hg, _, _ => simp [tRow] at hg
        | .recs .., hg, _, _ => simp [tRow] at hg
        | .cells _ [], hg, _, _ => simp [tRow] at hg
        | .cells _ (y :: l), _, hrow0, _ =>
          obtain ⟨b, h1, _, _, h4⟩ := hrow0
          have := VReps.length h4
          exact ⟨Nat.one_pos, fun r _ => ⟨by rw [← this]; simp, b, by rw [h1]; rfl, h1⟩⟩
      · rename_i hni
        obtain ⟨v, _, h2, h3⟩ := init_look' hvs i x hi
        simp only [Nat.sub_zero] at h2
        have hlt : i < vs.length := (List.getElem?_eq_some_iff.1 h2).1
        have : (vs.toArray ++ Array.replicate (fn.ntmps - vs.toArray.size) undef).getD i (W0.γ i) = v := by
          rw [Array.getD_eq_getD_getElem?, Array.getElem?_append_left (by simpa using hlt)]
          simp [h2]
        rw [this]
        exact h3
  refine wp_mono (acode_sound (w0 := W0) hΓ hm c _ _ _ w h ⟨η, hs⟩) (fun e a' w' hl => ?_)
  obtain ⟨st', hk, η', hs'⟩ := hl
  have fin : ares Γ st' fn.results.toList (tfin fn.ntmps r0 post st') → ∃ v, (results fn a'.tmps).run P w' = .ok v w' ∧ ∃ v' x r' η', Ending.returned v = .returned v' ∧ VRep w' (badOf ob [(0, r')] η') [] 0 η0 x v' ∧ shut x = true ∧ post x r' ∧ Below B w w' ∧
      (∀ b, b < w.heap.size → b ∉ bsOf η 0 r0 → w'.heap[b]? = w.heap[b]?) ∧ tRow r' = true ∧ RowRep w' B (badOf ob [(0, r')] η') [(0, r')] 1 η' 0 r' ∧ (bsOf η' 0 r').Nodup ∧
      (∀ b, b ∈ bsOf η' 0 r' → b ∈ bsOf η 0 r0 ∨ w.heap.size ≤ b) ∧ r'.kind = r0.kind ∧ η'.val 0 = η.val 0 ∧ (η'.cel 0).length = (η.cel 0).length := fun hk => by
    obtain ⟨xs, us, h1, h2, h3⟩ := ares_sound hΓ hs' hk
    have hres := results_run h3
    unfold tfin at h1
    split at h1
    case h_2 => exact h1.elim
    case h_1 x hx =>
      obtain ⟨hsh, hvw⟩ := clv_shut (resx xs) hx
      have hres0 := resx_rep h2
      split at h1
      case h_2 => exact h1.elim
      case h_1 g hgl =>
        split at h1
        case h_2 => exact h1.elim
        case h_1 r' hr' =>
          split at h1
          case h_2 => exact h1.elim
          case h_1 hc =>
            simp only [Bool.and_eq_true] at hc
            obtain ⟨⟨⟨⟨c1, c2⟩, c3⟩, c4⟩, c5⟩ := hc
            have hsz' := Nat.eq_of_beq_eq_true c5
            have hkind := Nat.eq_of_beq_eq_true c1
            · have hrow' := hs'.heap.row 0 r' hr'
              have hkeep : Keeps w' (badOf ob st'.hp η') w' (badOf ob [(0, r')] η') := fun b o x hb hc => by
                refine ⟨?_, hc⟩
                rintro (h1 | ⟨j, r1, hj, hm⟩)
                · exact hb (.inl h1)
                · rw [look_cons] at hj
                  split at hj
                  · rename_i h0
                    subst h0
                    obtain rfl := Option.some.inj hj
                    exact hb (.inr ⟨0, _, hr', hm⟩)
                  · cases hj
              have hfrm : ∀ b, b < w.heap.size → b ∉ bsOf η 0 r0 → w'.heap[b]? = w.heap[b]? := fun b hb hnb => hs'.frame b hb hnb
              have hsrc : ∀ b, b ∈ bsOf η' 0 r' → b ∈ bsOf η 0 r0 ∨ w.heap.size ≤ b := fun b hb => hs'.src b ⟨0, r', hr', hb⟩
              have hnod := hs'.heap.nodup 0 r' hr'
              match r0, r', g, hg, c2, c3, c4, hrow0, hrow', hr', hgl, hkeep, hkind, h1, hfrm, hsrc, hnod with
              | .cells _ (y0 :: l0), .cells e (y :: l), .ptr 0 0, _, _, c3, c4, hrow0, hrow', hr', hgl, hkeep, hkind, h1, hfrm, hsrc, hnod =>
                obtain ⟨b0, p1, p2, p3, p4⟩ := hrow0
                obtain ⟨b1, q1, q2, q3, q4⟩ := hrow'
                have hslot := hs'.slot _ _ hgl
                have hget : a'.tmps.getD fn.ntmps (W0.γ fn.ntmps) = η.val 0 := by
                  have e1 : W0.γ fn.ntmps = η.val 0 := if_pos rfl
                  rw [Array.getD_eq_getD_getElem?, Array.getElem?_eq_none (by rw [hs'.size, hsz']; exact Nat.le_refl _), e1]; rfl
                rw [hget] at hslot
                have hval : η'.val 0 = η.val 0 := by
                  obtain ⟨_, b', e2, e3⟩ := hslot.2 _ hr'
                  rw [q1, ptr_blk] at e2
                  simp only [List.cons.injEq, and_true] at e2
                  rw [q1, e3, e2]
                have hlen' : (η'.cel 0).length = (η.cel 0).length := by
                  have l0' := VReps.length p4
                  have l1' := VReps.length q4
                  have := Nat.eq_of_beq_eq_true c4
                  omega
                have hrv : rowsVw st'.hp [(0, Org.row 0)] 1 [(0, .cells e (y :: l))] := ⟨rfl, by
                  show rowVw st'.hp [(0, Org.row 0)] 1 (.row 0) _
                  simp only [rowVw, hr']
                  exact ⟨trivial, tcells_vws c3⟩, trivial⟩
                have hvr := vw_sound hs'.heap (fun b hb => hs'.free hb) hrv (resx xs) x hvw hres0
                have hkk : Keeps w' (badOf ob [(0, .cells e (y :: l))] (ηV st'.hp η' [(0, Org.row 0)])) w' (badOf ob [(0, .cells e (y :: l))] η') := fun b o z hb hc => by
                  refine ⟨?_, hc⟩
                  rintro (k1 | ⟨j, r1, hj, hm⟩)
                  · exact hb (.inl k1)
                  · rw [look_cons] at hj
                    split at hj
                    · rename_i h0
                      subst h0
                      obtain rfl := Option.some.inj hj
                      exact hb (.inr ⟨0, _, rfl, hm⟩)
                    · cases hj
                have hvr' := shut_rep (hp' := []) (nx' := 0) (η' := η0) hkk x hsh hvr
                refine ⟨_, hres, _, x, .cells e (y :: l), η', rfl, hvr', hsh, h1, hs'.below, hfrm, c3, ⟨b1, q1, q2, q3, tcells_rep hkeep c3 q4⟩, hnod, hsrc, hkind, hval, hlen'⟩
  cases e with
  | ret => exact ⟨hs'.defers, fin hk⟩
  | normal => exact ⟨hs'.defers, fin hk⟩
  | _ => exact hk.elim

/-- a variable's cells have become others -/
theorem SRep.mutT (h : SRep w0 ob st a w η) {k : Nat} {r r' : ARow} {cs' : List Value} (hr : look st.hp k = some r) (hkind : r'.kind = r.kind) (hlen : (η.cel k).length ≤ cs'.length)
    (hw : ∀ b, b < w.heap.size → b ∉ bsOf η k r → w'.heap[b]? = w.heap[b]?) (hB : Below w0.B w w')
    (hnd : (bsOf (η.upd k (η.val k) cs') k r').Nodup) (hfr : ∀ b, b ∈ bsOf (η.upd k (η.val k) cs') k r' → b ∈ bsOf η k r ∨ w.heap.size ≤ b)
    (hrow : RowRep w' w0.B (badOf ob ((st.killSub k).upd k r').hp (η.upd k (η.val k) cs')) ((st.killSub k).upd k r').hp st.nx (η.upd k (η.val k) cs') k r') :
    SRep w0 ob ((st.killSub k).upd k r') a w' (η.upd k (η.val k) cs') := by
  have hoth : ∀ j r1, j ≠ k → look ((st.killSub k).upd k r').hp j = some r1 → ∃ r, look st.hp j = some r ∧ r1 = r.flt (fun _ => true) (ne k) := fun j r1 hj h1 => by
    simp only [St.upd, St.killSub, look_upd, if_neg (Ne.symm hj), look_fltH] at h1
    obtain ⟨r, h2, rfl⟩ := Option.map_eq_some_iff.1 h1
    exact ⟨r, h2, rfl⟩
  have hk' : look ((st.killSub k).upd k r').hp k = some r' := by simp only [St.upd, look_upd, if_true]
  have hok : ∀ j, j < st.nx → OwnOk st.hp η ((st.killSub k).upd k r').hp (η.upd k (η.val k) cs') j := fun j _ => by
    by_cases hjk : j = k
    · subst hjk
      exact ⟨fun r1 h1 => by rw [hk'] at h1; obtain rfl := Option.some.inj h1; exact ⟨r, hr, hkind.symm, upd_val _ _ _ _, by rw [upd_cel]; exact hlen⟩⟩
    · exact OwnOk.of (fun r1 h1 => by obtain ⟨r, h2, rfl⟩ := hoth j r1 hjk h1; exact ⟨r, h2, (kind_flt _ _ r).symm⟩) (upd_ne _ _ _ _ j hjk).1 (upd_ne _ _ _ _ j hjk).2
  have hsk : ∀ j, j < st.nx → ne k j = true → SubOk st.hp η ((st.killSub k).upd k r').hp (η.upd k (η.val k) cs') j := fun j _ hj => by
    have hjk := (ne_spec k j).1 hj
    exact SubOk.of (fun r1 h1 => by obtain ⟨r, h2, rfl⟩ := hoth j r1 hjk h1; exact ⟨r, h2, (kind_flt _ _ r).symm⟩) (upd_ne _ _ _ _ j hjk).2
  obtain ⟨hh, hkp⟩ := HRep.step (k := k) (hp' := ((st.killSub k).upd k r').hp) (nx' := st.nx) (η' := η.upd k (η.val k) cs') (w' := w') h.heap (fun _ => true) (ne k) r' (h.heap.lt k r hr) (Nat.le_refl _)
    (fun j r1 hj h1 => hoth j r1 hj h1) hk' (fun j hj => upd_ne _ _ _ _ j hj)
    (fun b hb hn => hw b hb (hn r hr)) (fun j hj _ => hok j hj) hsk hnd
    (fun b hb => (hfr b hb).imp (fun h1 => ⟨k, r, hr, h1, .inl rfl⟩) id) (fun _ => hrow)
  exact h.heapStep (fun _ => true) (ne k) hB hh hkp (Nat.le_refl _) (fun j hj _ => hok j hj) hsk

theorem tmut_core {f : FuncId} {args args0 : List AVal} {r0 : ARow} {K : AVal → St → Prop} {post : AVal → ARow → Prop} (k : Nat) (hs : TSpec P f r0 args0 post)
    (hk : ∀ x r', post x r' → K x ((st.killSub k).upd k r')) (hlk : look st.hp k = some r0) (hv : vws st.hp [(0, .row k)] 1 args args0) (hr : rowVw st.hp [(0, .row k)] 1 (.row k) r0)
    (hp : pargs args args0 = true) (ht : tRow r0 = true) (h : SRep w0 ob st a w η) (vs : List Value) (hvs : VReps w (fun b => ob b ∨ ownB st.hp η b) st.hp st.nx η args vs) :
    Calls P f vs.toArray w fun e w' => (∃ v x st' η', e = .returned v ∧ K x st' ∧ st'.sz = st.sz ∧ SRep w0 ob st' a w' η' ∧ VRep w' (fun b => ob b ∨ ownB st'.hp η' b) st'.hp st'.nx η' x v) ∧
      w.heap.size ≤ w'.heap.size ∧ ∀ b, b < w.heap.size → b ∉ bsOf η k r0 → w'.heap[b]? = w.heap[b]? := by
  have hrv : rowsVw st.hp [(0, .row k)] 1 [(0, r0)] := ⟨rfl, hr, trivial⟩
  have hfree : ∀ b, ownB st.hp η b → ¬ ob b := fun b hb => h.free hb
  have ha0 := vws_sound (R := [(0, .row k)]) (nx' := 1) h.heap hfree hrv args args0 hv hvs
  let η1 : Env := ηV st.hp η [(0, Org.row k)]
  let ob1 : Nat → Prop := fun b => ob b ∨ ∃ j r, j ≠ k ∧ look st.hp j = some r ∧ b ∈ bsOf η j r
  have hv0 : η1.val 0 = η.val k := rfl
  have hc0 : η1.cel 0 = η.cel k := rfl
  have hbs : ∀ r, bsOf η1 0 r = bsOf η k r := fun r => by simp only [bsOf, hv0, hc0]
  have hone : ∀ j r, look [(0, r0)] j = some r → j = 0 ∧ r = r0 := fun j r hk => by
    rw [look_cons] at hk
    split at hk
    · rename_i h0; exact ⟨h0.symm, (Option.some.inj hk).symm⟩
    · cases hk
  have hdis : ∀ b, b ∈ bsOf η1 0 r0 → ¬ ob1 b := fun b hb => by
    rw [hbs] at hb
    rintro (h1 | ⟨j, r, hj, hl, hm⟩)
    · exact hfree b ⟨k, r0, hlk, hb⟩ h1
    · exact h.heap.apart j r k r0 hl hlk hj b hm hb
  have hkeep : Keeps w (badOf ob st.hp η) w (badOf ob1 [(0, r0)] η1) := fun b o x hb hc => by
    refine ⟨?_, hc⟩
    rintro ((h1 | ⟨j, r, _, hl, hm⟩) | ⟨j, r, hj, hm⟩)
    · exact hb (.inl h1)
    · exact hb (.inr ⟨j, r, hl, hm⟩)
    · obtain ⟨rfl, rfl⟩ := hone j r hj
      rw [hbs] at hm
      exact hb (.inr ⟨k, _, hlk, hm⟩)
  have hh1 : HRep w w0.B ob1 [(0, r0)] 1 η1 := by
    refine ⟨fun j r hj => ?_, fun j r hj => ?_, fun j r j' r' hj hj' hne => ?_, fun j r hj => ?_⟩
    · obtain ⟨rfl, rfl⟩ := hone j r hj
      have hrow := h.heap.row k _ hlk
      match r, ht, hrow with
      | .cells e (y :: l), ht, ⟨b, p1, p2, p3, p4⟩ => exact ⟨b, by rw [hv0]; exact p1, p2, by rw [hc0]; exact p3, by rw [hc0]; exact tcells_rep hkeep ht p4⟩
      | .cells _ [], ht, _ => simp [tRow] at ht
      | .ints .., ht, _ => simp [tRow] at ht
      | .rows .., ht, _ => simp [tRow] at ht
      | .recs .., ht, _ => simp [tRow] at ht
    · obtain ⟨rfl, rfl⟩ := hone j r hj
      rw [hbs]; exact h.heap.nodup k _ hlk
    · obtain ⟨rfl, rfl⟩ := hone j r hj
      obtain ⟨rfl, rfl⟩ := hone j' r' hj'
      exact absurd rfl hne
    · obtain ⟨rfl, rfl⟩ := hone j r hj
      exact Nat.one_pos
  refine (hs.2 w w0.B ob1 η1 vs (wB h) (fun b hb => ?_) hdis hh1 (pargs_rep hkeep args args0 vs hp hv hvs ha0)).mono ?_
  · rcases hb with h1 | ⟨j, r, _, hl, hm⟩
    · exact h.badlt (.inl h1)
    · exact h.badlt (.inr ⟨j, r, hl, hm⟩)
  · rintro e w' ⟨v, x, r', η', rfl, hvx, hsh, hpo, hbel, hfrm, ht', hrow, hnd, hsrc, hkind, hval, hlen⟩
    have hu : (η.upd k (η.val k) (η'.cel 0)).val k = η'.val 0 := by rw [upd_val, hval, hv0]
    have hbs' : bsOf (η.upd k (η.val k) (η'.cel 0)) k r' = bsOf η' 0 r' := by simp only [bsOf, hu, upd_cel]
    have hkeep' : Keeps w' (badOf ob1 [(0, r')] η') w' (badOf ob ((st.killSub k).upd k r').hp (η.upd k (η.val k) (η'.cel 0))) := fun b o x hb hc => by
      refine ⟨?_, hc⟩
      rintro (h1 | ⟨j, r1, hj, hm⟩)
      · exact hb (.inl (.inl h1))
      · by_cases hjk : j = k
        · subst hjk
          simp only [St.upd, look_upd, if_true] at hj
          obtain rfl := Option.some.inj hj
          rw [hbs'] at hm
          exact hb (.inr ⟨0, _, rfl, hm⟩)
        · simp only [St.upd, St.killSub, look_upd, if_neg (Ne.symm hjk), look_fltH] at hj
          obtain ⟨r2, h2, rfl⟩ := Option.map_eq_some_iff.1 hj
          rw [bsOf_flt, bsOf_congr (upd_ne _ _ _ _ j hjk).1 (upd_ne _ _ _ _ j hjk).2 rfl] at hm
          exact hb (.inl (.inr ⟨j, r2, hjk, h2, hm⟩))
    have hs' := SRep.mutT (w' := w') h (cs' := η'.cel 0) hlk hkind (by rw [hlen, hc0]; exact Nat.le_refl _) (fun b hb hn => hfrm b hb (by rw [hbs]; exact hn)) hbel
      (by rw [hbs']; exact hnd) (fun b hb => by rw [hbs'] at hb; rw [← hbs]; exact hsrc b hb) (by
        match r', ht', hrow with
        | .cells e (y :: l), ht', ⟨b, p1, p2, p3, p4⟩ => exact ⟨b, by rw [hu]; exact p1, p2, by rw [upd_cel]; exact p3, by rw [upd_cel]; exact tcells_rep hkeep' ht' p4⟩
        | .cells _ [], ht', _ => simp [tRow] at ht'
        | .ints .., ht', _ => simp [tRow] at ht'
        | .rows .., ht', _ => simp [tRow] at ht'
        | .recs .., ht', _ => simp [tRow] at ht')
    exact ⟨⟨v, x, _, _, rfl, hk x r' hpo, rfl, hs', shut_rep hkeep' x hsh hvx⟩, hbel.size, fun b hb hn => hfrm b hb (by rw [hbs]; exact hn)⟩

theorem ACallS.tmut {f : FuncId} {args args0 : List AVal} {r0 : ARow} {K : AVal → St → Prop} {post : AVal → ARow → Prop} (k : Nat) (hs : TSpec P f r0 args0 post)
    (hk : ∀ x r', post x r' → K x ((st.killSub k).upd k r')) (hlk : look st.hp k = some r0) (hv : vws st.hp [(0, .row k)] 1 args args0) (hr : rowVw st.hp [(0, .row k)] 1 (.row k) r0)
    (hp : pargs args args0 = true := by rfl) (ht : tRow r0 = true := by rfl) : ACallS P st f args K :=
  ⟨hs.1, fun _ _ _ _ _ h vs hvs => (tmut_core k hs hk hlk hv hr hp ht h vs hvs).mono fun _ _ h => h.1⟩

theorem ACallT.tmut {f : FuncId} {args args0 : List AVal} {r0 : ARow} {K : AVal → St → Prop} {post : AVal → ARow → Prop} (hs : TSpec P f r0 args0 post)
    (hk : ∀ x r', post x r' → K x ((st.killSub 0).upd 0 r')) (hlk : look st.hp 0 = some r0) (hv : vws st.hp [(0, .row 0)] 1 args args0) (hr : rowVw st.hp [(0, .row 0)] 1 (.row 0) r0)
    (hp : pargs args args0 = true := by rfl) (ht : tRow r0 = true := by rfl) : ACallT P st f args K :=
  ⟨hs.1, fun _ _ _ _ _ h vs hvs => (tmut_core 0 hs hk hlk hv hr hp ht h vs hvs).mono fun _ _ h => ⟨h.1, h.2.1, fun r hr => by
    rw [hlk] at hr
    obtain rfl := Option.some.inj hr
    exact h.2.2⟩⟩

/-- .. of a number, of a list: the contract's arguments are the call's -/
theorem ACallT.tmutI {f : FuncId} {n : Int} {r0 : ARow} {K : AVal → St → Prop} {post : AVal → ARow → Prop} (hs : TSpec P f r0 [.ptr 0 0, .c (.int .i64 n)] post)
    (hk : ∀ x r', post x r' → K x ((st.killSub 0).upd 0 r')) (hlk : look st.hp 0 = some r0) (hr : rowVw st.hp [(0, .row 0)] 1 (.row 0) r0)
    (ht : tRow r0 = true := by rfl) : ACallT P st f [.ptr 0 0, .c (.int .i64 n)] K := ACallT.tmut hs hk hlk ⟨⟨rfl, rfl, rfl⟩, rfl, trivial⟩ hr rfl ht
theorem ACallT.tmutL {f : FuncId} {k : IntKind} {l : List Int} {r0 : ARow} {K : AVal → St → Prop} {post : AVal → ARow → Prop} (hs : TSpec P f r0 [.ptr 0 0, .t (.ints k l)] post)
    (hk : ∀ x r', post x r' → K x ((st.killSub 0).upd 0 r')) (hlk : look st.hp 0 = some r0) (hr : rowVw st.hp [(0, .row 0)] 1 (.row 0) r0)
    (ht : tRow r0 = true := by rfl) : ACallT P st f [.ptr 0 0, .t (.ints k l)] K := ACallT.tmut hs hk hlk ⟨⟨rfl, rfl, rfl⟩, rfl, trivial⟩ hr rfl ht

theorem give_core {j e : Nat} {kd : IntKind} {l : List Int} (hr : look st.hp j = some (.ints e kd l)) (hj : j ≠ 0) (h : SRep w0 ob st a w η) {vs : List Value}
    (hvs : VReps w (fun b => ob b ∨ ownB st.hp η b) st.hp st.nx η [.ptr 0 0, .own j] vs) : VReps w (fun b => ob b ∨ ownB (st.del j).hp η b) (st.del j).hp (st.del j).nx η [.ptr 0 0, .t (.ints kd l)] vs := by
  match vs, hvs with
  | [v1, v2], ⟨h1, h2, _⟩ =>
    refine ⟨⟨h1.1, fun r hr' => h1.2 r (by simpa [St.del, look_rem_ne _ _ _ (Ne.symm hj)] using hr')⟩, ?_, trivial⟩
    have hrow := h.heap.row j _ hr
    have e2 := (h2.2 _ hr).2
    subst e2
    refine own_intsB hrow.1 (fun b hb => ?_)
    have hm : b ∈ bsOf η j (.ints e kd l) := by simp [bsOf, ARow.kind, hb]
    rintro (h3 | ⟨j', r', hj', hm'⟩)
    · exact h.free ⟨j, _, hr, hm⟩ h3
    · simp only [St.del] at hj'
      by_cases e3 : j' = j
      · subst e3; rw [look_rem] at hj'; cases hj'
      · rw [look_rem_ne _ _ _ e3] at hj'
        exact h.heap.apart j' r' j _ hj' hr e3 b hm' hm

/-- a list of the call's own is given away, read-only from here on -/
theorem ACallS.give {f : FuncId} {j e : Nat} {kd : IntKind} {l : List Int} {K : AVal → St → Prop} (h : ACallS P (st.del j) f [.ptr 0 0, .t (.ints kd l)] K)
    (hr : look st.hp j = some (.ints e kd l) := by rfl) (hj : Nat.beq j 0 = false := by rfl) : ACallS P st f [.ptr 0 0, .own j] K := by
  have hj : j ≠ 0 := fun e => by rw [e] at hj; cases hj
  exact ⟨h.fok, fun w0 ob a w η hs vs hvs => (h.run w0 ob a w η (hs.giveUp j) vs (give_core hr hj hs hvs)).mono fun e w' h => h⟩
theorem ACallT.give {f : FuncId} {j e : Nat} {kd : IntKind} {l : List Int} {K : AVal → St → Prop} (h : ACallT P (st.del j) f [.ptr 0 0, .t (.ints kd l)] K)
    (hr : look st.hp j = some (.ints e kd l) := by rfl) (hj : Nat.beq j 0 = false := by rfl) : ACallT P st f [.ptr 0 0, .own j] K := by
  have hj : j ≠ 0 := fun e => by rw [e] at hj; cases hj
  refine ⟨h.fok, fun w0 ob a w η hs vs hvs => (h.run w0 ob a w η (hs.giveUp j) vs (give_core hr hj hs hvs)).mono fun e w' h => ⟨h.1, h.2.1, fun r hr' => h.2.2 r ?_⟩⟩
  show look (rem j st.hp) 0 = some r
  rw [look_rem_ne _ _ _ (Ne.symm hj)]; exact hr'
end
end Go.Aw
/- 'x[i] = append(x[i], ..)' on rows of the call's own. -/
namespace Go.Aw
open Go.RowKit

theorem F2.set' {α β : Type} {R R' : α → β → Prop} : ∀ {l : List α} {r : List β}, F2 R l r → ∀ {i : Nat} {a : α} {b : β}, (∀ (j : Nat) (x : α) (y : β), j ≠ i → l[j]? = some x → r[j]? = some y → R x y → R' x y) → R' a b → F2 R' (l.set i a) (r.set i b)
  | [], [], _, _, _, _, _, _ => by simp [F2]
  | x :: l, y :: r, h, 0, _, _, hj, hab => ⟨hab, F2.intro (F2.length h.2) (fun j u v hu hv => by
      obtain ⟨v', hv', h'⟩ := F2.at h.2 hu
      rw [hv] at hv'; obtain rfl := Option.some.inj hv'
      exact hj (j + 1) u v (by omega) (by simpa using hu) (by simpa using hv) h')⟩
  | x :: l, y :: r, h, i + 1, _, _, hj, hab => ⟨hj 0 x y (by omega) rfl rfl h.1, F2.set' h.2 (fun j u v hne hu hv => hj (j + 1) u v (by omega) (by simpa using hu) (by simpa using hv)) hab⟩
  | [], _ :: _, h, _, _, _, _, _ => h.elim
  | _ :: _, [], h, _, _, _, _, _ => h.elim

theorem flat_set2 : ∀ {xs : List Value} {v old : Value} (i : Nat), xs[i]? = some old → (xs.flatMap blk).Nodup → (blk v).Nodup → (∀ b, b ∈ blk v → b ∈ blk old ∨ b ∉ xs.flatMap blk) →
    ((xs.set i v).flatMap blk).Nodup ∧ (∀ b, b ∈ (xs.set i v).flatMap blk → b ∈ blk v ∨ b ∈ xs.flatMap blk)
  | [], _, _, i, h, _, _, _ => by simp at h
  | x :: xs, v, old, 0, h, hn, hv, hd => by
      simp at h; subst h
      rw [List.flatMap_cons] at hn hd
      obtain ⟨n1, n2, n3⟩ := List.nodup_append.1 hn
      rw [List.set_cons_zero, List.flatMap_cons, List.flatMap_cons]
      refine ⟨List.nodup_append.2 ⟨hv, n2, fun a ha b hb e => ?_⟩, fun b hb => ?_⟩
      · subst e
        rcases hd a ha with h1 | h1
        · exact n3 a h1 a hb rfl
        · exact h1 (List.mem_append.2 (.inr hb))
      · rcases List.mem_append.1 hb with h1 | h1
        · exact .inl h1
        · exact .inr (List.mem_append.2 (.inr h1))
  | x :: xs, v, old, i + 1, h, hn, hv, hd => by
      simp at h
      rw [List.flatMap_cons] at hn hd
      obtain ⟨n1, n2, n3⟩ := List.nodup_append.1 hn
      have hold : ∀ b, b ∈ blk old → b ∈ xs.flatMap blk := fun b hb => List.mem_flatMap.2 ⟨old, List.mem_of_getElem? h, hb⟩
      obtain ⟨f1, f2⟩ := flat_set2 i h n2 hv (fun b hb => (hd b hb).imp id (fun h1 h2 => h1 (List.mem_append.2 (.inr h2))))
      rw [List.set_cons_succ, List.flatMap_cons, List.flatMap_cons]
      refine ⟨List.nodup_append.2 ⟨n1, f1, fun a ha b hb e => ?_⟩, fun b hb => ?_⟩
      · subst e
        rcases f2 a hb with h1 | h1
        · rcases hd a h1 with h2 | h2
          · exact n3 a ha a (hold a h2) rfl
          · exact h2 (List.mem_append.2 (.inl ha))
        · exact n3 a ha a h1 rfl
      · rcases List.mem_append.1 hb with h1 | h1
        · exact .inr (List.mem_append.2 (.inl h1))
        · exact (f2 b h1).imp id (fun h2 => List.mem_append.2 (.inr h2))

def aset (Γ : Tys) (st : St) (e t : Nat) (u v x c : Operand) (d1 d2 : Nat) (K : St → Prop) : Prop :=
  match look Γ t with
  | some ⟨.slice e', _, _, _⟩ => match look Γ e' with
    | some ⟨.slice _, 1, _, _⟩ => match look Γ e with
      | some ⟨.slice ei, _, _, _⟩ => match look Γ ei with
        | some ⟨_, 1, by_, [_]⟩ => match Nat.ble by_ 64 with
          | true => match ev st u with
            | some (.sub k i) => match ev st v with
              | some (.own k2) => match ev (st.put d1 .un) x with
                | some (.own k') => match ev (st.put d1 .un) c with
                  | some (.c (.int _ n)) => match look st.hp k with
                    | some (.rows e0 e1 true m) => match look st.hp k2 with
                      | some (.ints _ .i64 l2) => match Nat.beq k k' && Nat.beq e1 ei && Nat.blt d1 st.sz && Nat.blt d2 st.sz with
                        | true => n = (i : Int) ∧ i < m.length ∧ (m.getD i []).length + l2.length ≤ room ∧
                            K ((((st.put d1 .un).put d2 .un).killSub k).upd k (.rows e0 e1 true (m.set i (m.getD i [] ++ l2))))
                        | false => False
                      | _ => False
                    | _ => False
                  | _ => False
                | _ => False
              | _ => False
            | _ => False
          | false => False
        | _ => False
      | _ => False
    | _ => False
  | _ => False

section
variable {P : Program} {Γ : Tys} {w0 : Base} {w w' : World} {ob : Nat → Prop} {st : St} {a : Act} {η : Env}

theorem eval_put {d i : Nat} {v : Value} (hd : d < a.tmps.size) : (a.put (some d) v).eval (.tmp i) = if d = i then v else a.eval (.tmp i) := getD_put hd

theorem aset_sound (hΓ : TysOk P Γ) (h : SRep w0 ob st a w η) {e t e' d1 d2 : Nat} {u v x c : Operand} {K : St → Prop} (hd : d1 ≠ d2) {s1 s2 : Nat} {s3 : List Value} (ht' : look Γ t = some ⟨.slice e', s1, s2, s3⟩)
    {o1 o2 o3 : Oper} (h1 : o1.op = .call ⟨.builtin .append, #[u, v], #[e, e]⟩) (h1d : o1.dst = some d1) (h1g : o1.guard = none)
    (h2 : o2.op = .indexAddr t x c) (h2d : o2.dst = some d2) (h2g : o2.guard = none) (h3 : o3.op = .store e' (.tmp d2) (.tmp d1)) (h3d : o3.dst = none) (h3g : o3.guard = none)
    (hk : aset Γ st e t u v x c d1 d2 K) {opsA : Array Oper} {Q : Exit → Act → World → Prop} (hQ : ∀ st' a' w' η', K st' → SRep w0 ob st' a' w' η' → Q .normal a' w') : wpList P opsA Q [o1, o2, o3] a w := by
  unfold aset at hk
  rw [ht'] at hk
  simp only at hk
  split at hk
  case h_2 => exact hk.elim
  case h_1 q1 q2 q3 hte' =>
  split at hk
  case h_2 => exact hk.elim
  case h_1 ei q4 q5 q6 he =>
  split at hk
  case h_2 => exact hk.elim
  case h_1 q7 by_ zv hei =>
  split at hk
  case h_2 => exact hk.elim
  case h_1 hby =>
  split at hk
  case h_2 => exact hk.elim
  case h_1 k i hu =>
  split at hk
  case h_2 => exact hk.elim
  case h_1 k2 hv =>
  split at hk
  case h_2 => exact hk.elim
  case h_1 k' hx =>
  split at hk
  case h_2 => exact hk.elim
  case h_1 kk n hc =>
  split at hk
  case h_2 => exact hk.elim
  case h_1 e0 e1 m hr =>
  split at hk
  case h_2 => exact hk.elim
  case h_1 e2 l2 hr2 =>
  split at hk
  case h_2 => exact hk.elim
  case h_1 hcond =>
  simp only [Bool.and_eq_true] at hcond
  obtain ⟨⟨⟨c1, c2⟩, c3⟩, c4⟩ := hcond
  have c1 := Nat.eq_of_beq_eq_true c1
  have c2 := Nat.eq_of_beq_eq_true c2
  subst c1 c2
  have c3 : d1 < st.sz := Nat.le_of_ble_eq_true c3
  have c4 : d2 < st.sz := Nat.le_of_ble_eq_true c4
  obtain ⟨rfl, hi, hroom, hK⟩ := hk
  have hby' := Nat.le_of_ble_eq_true hby
  have tyt := (hΓ.at ht').desc
  have tye := (hΓ.at he).desc
  simp only [TD.is] at tyt tye
  have tyei := hΓ.at hei
  have tye' := hΓ.at hte'
  have hrow := h.heap.row k _ hr
  obtain ⟨hlt, hsub⟩ := (ev_sound h hu : VR w ob st η (.sub k i) (a.eval u))
  obtain ⟨_, hcel⟩ := hsub _ hr
  obtain ⟨li, hli, howni⟩ := F2.at' hrow.2 hcel
  have hli' : li = m.getD i [] := by simp [List.getD, hli]
  subst hli'
  obtain ⟨_, hown2⟩ := (ev_sound h hv : VR w ob st η (.own k2) (a.eval v))
  obtain ⟨_, hv2⟩ := hown2 _ hr2
  have hsrc : Src w (a.eval v) l2.length (l2.map (Value.int .i64)) := by rw [hv2]; exact Src.own (h.heap.row k2 _ hr2).1
  obtain ⟨v', w', hrun, hown', hfr, hsz, hsame, hB, hnd'⟩ := run_append_fresh (ty := o1.type) tye tyei rfl hby' rfl howni hsrc (fun y hy => by obtain ⟨_, _, rfl⟩ := List.mem_map.1 hy; rfl) hroom (wB h)
  have hs1 : SRep w0 ob (st.put d1 .un) (a.put (some d1) v') w η := h.put c3 (x := .un) trivial
  have hsz1 : d1 < a.tmps.size := by rw [h.size]; exact c3
  obtain ⟨_, hownx⟩ := (ev_sound hs1 hx : VR w ob (st.put d1 .un) η (.own k) _)
  obtain ⟨_, hxv⟩ := hownx _ hr
  obtain ⟨hcv, _⟩ := (ev_sound hs1 hc : VR w ob (st.put d1 .un) η (.c (.int kk i)) _)
  obtain ⟨ba, cp, hval⟩ := len_own hrow.1
  have hlen := F2.length hrow.2
  obtain ⟨g, rfl, hg0⟩ : ∃ g, ba = some ⟨g, 0, none⟩ ∧ True := by
    rcases hrow.1.2 with ⟨h0, h0'⟩ | ⟨g, cap, cur, h0, _⟩
    · omega
    · rw [hval] at h0; cases h0; exact ⟨g, rfl, trivial⟩
  have hbk : blk (η.val k) = [g] := by rw [hval]; rfl
  have hbs : bsOf η k (.rows e0 e1 true m) = blk (η.val k) ++ (η.cel k).flatMap blk := by simp [bsOf, ARow.kind]
  have hnod := h.heap.nodup k _ hr
  rw [hbs, hbk] at hnod
  obtain ⟨n1, n2, n3⟩ := List.nodup_append.1 hnod
  have hsubm : ∀ b, b ∈ blk (a.eval u) → b ∈ (η.cel k).flatMap blk := fun b hb => List.mem_flatMap.2 ⟨_, List.mem_of_getElem? hcel, hb⟩
  have hgu : g ∉ blk (a.eval u) := fun hb => n3 g (by simp) g (hsubm g hb) rfl
  have hblt : ∀ b, b ∈ bsOf η k (.rows e0 e1 true m) → b < w.heap.size := fun b hb => (RowRep.lt hrow b hb).2
  have hg : g < w.heap.size := hblt g (by rw [hbs, hbk]; simp)
  have hown1 : w'.ownsRow w0.B e0 1 (η.val k) m.length (η.cel k) := ownsRow_same hrow.1 (fun b hb => by
    rw [hbk] at hb; obtain rfl := List.mem_singleton.1 hb
    exact hsame b hg hgu)
  obtain ⟨cur, hg1, ho, hBg, hown3⟩ := own_set hown1 hbk hi v'
  obtain ⟨vb, vc, hvv⟩ := len_own hown'
  have hcellv : v'.cells = [v'].toArray ∧ v'.oneCell' = true := by rw [hvv]; exact ⟨rfl, rfl⟩
  have hst := run_storeAt (P := P) tye' (us := [v']) hcellv.1 rfl (by simp [hcellv.2]) hg1 ho
  let p : Value := .pointer (some ⟨g, 0 + i, none⟩)
  have hs2 : SRep w0 ob ((st.put d1 .un).put d2 .un) ((a.put (some d1) v').put (some d2) p) w η := hs1.put c4 (x := .un) trivial
  have hsz2 : d2 < (a.put (some d1) v').tmps.size := by rw [hs1.size]; exact c4
  let w2 := w'.setRow g (cur.toList.take i ++ [v'] ++ cur.toList.drop (i + 1)).toArray
  have hB2 : Below w0.B w w2 := hB.trans (below_setRow hBg _)
  have hfresh : ∀ b, b ∈ blk v' → b ∈ blk (a.eval u) ∨ b ∉ (η.cel k).flatMap blk := fun b hb => (hfr b hb).imp id (fun e hm => by
    have := hblt b (by rw [hbs]; exact List.mem_append.2 (.inr hm)); omega)
  obtain ⟨f1, f2⟩ := flat_set2 i hcel n2 hnd' hfresh
  have hgv : g ∉ blk v' := fun hb => by
    rcases hfr g hb with h1 | h1
    · exact hgu h1
    · omega
  have hbs' : bsOf (η.upd k (η.val k) ((η.cel k).set i v')) k (.rows e0 e1 true (m.set i (m.getD i [] ++ l2))) = blk (η.val k) ++ ((η.cel k).set i v').flatMap blk := by simp [bsOf, ARow.kind, upd_val, upd_cel]
  have hfin := SRep.mutT (w' := w2) (r' := .rows e0 e1 true (m.set i (m.getD i [] ++ l2))) (cs' := (η.cel k).set i v') hs2 hr rfl (by simp)
    (fun b hb hn => by
      rw [hbs, hbk] at hn
      have e1 : b ≠ g := fun e => hn (by rw [e]; simp)
      show (w'.setRow g _).heap[b]? = _
      rw [setRow_other w' g b _ e1]
      exact hsame b hb (fun hm => hn (List.mem_append.2 (.inr (hsubm b hm))))) hB2
    (by
      rw [hbs', hbk]
      refine List.nodup_append.2 ⟨n1, f1, fun b hb1 b' hb' e => ?_⟩
      subst e
      obtain rfl := List.mem_singleton.1 hb1
      rcases f2 b hb' with h2 | h2
      · exact hgv h2
      · exact n3 b (by simp) b h2 rfl)
    (fun b hb => by
      rw [hbs'] at hb
      rcases List.mem_append.1 hb with h2 | h2
      · exact .inl (by rw [hbs]; exact List.mem_append.2 (.inl h2))
      · rcases f2 b h2 with h3 | h3
        · rcases hfr b h3 with h4 | h4
          · exact .inl (by rw [hbs]; exact List.mem_append.2 (.inr (hsubm b h4)))
          · exact .inr (by omega)
        · exact .inl (by rw [hbs]; exact List.mem_append.2 (.inr h3)))
    (by
      refine ⟨?_, ?_⟩
      · rw [upd_val, upd_cel, List.length_set]; exact hown3
      · rw [upd_cel]
        refine F2.set' hrow.2 (fun j l1 y hne hl1 hy ho1 => ?_) ?_
        · have hap := flat_apart n2 hy hcel hne
          refine own_other (ownsRow_same ho1 (fun b hb => ?_)) (fun hb => n3 g (by simp) g (List.mem_flatMap.2 ⟨y, List.mem_of_getElem? hy, hb⟩) rfl) _
          exact hsame b (hblt b (by rw [hbs]; exact List.mem_append.2 (.inr (List.mem_flatMap.2 ⟨y, List.mem_of_getElem? hy, hb⟩)))) (hap b hb)
        · refine own_other ?_ hgv _
          simp only [List.length_append, List.map_append]
          exact hown')
  have r1 : (execOp a.eval o1).run P w = .ok (.value v') w' := by simp [execOp, h1, resolve, invoke, builtin, hrun]
  have r2 : (execOp (a.put (some d1) v').eval o2).run P w' = .ok (.value p) w' := by
    simp only [execOp, h2, hxv, hcv, hval]
    simp [run_idx_sl tyt tye' rfl hi w', p]
  have r3 : (execOp ((a.put (some d1) v').put (some d2) p).eval o3).run P w' = .ok .skip w2 := by
    refine ANStore h3 ?_
    rw [eval_put hsz2, if_pos rfl, eval_put hsz2, if_neg (Ne.symm hd), eval_put hsz1, if_pos rfl]
    simp only [p, Nat.zero_add]
    exact hst
  unfold wpList
  rw [if_pos (by simp [Region.wanted, h1g])]
  refine .inl ?_
  unfold Oper.wp
  rw [r1, Oper.upon_value, h1d]
  unfold wpList
  rw [if_pos (by simp [Region.wanted, h2g])]
  refine .inl ?_
  unfold Oper.wp
  rw [r2, Oper.upon_value, h2d]
  unfold wpList
  rw [if_pos (by simp [Region.wanted, h3g])]
  refine .inl ?_
  unfold Oper.wp
  rw [r3, Oper.upon_skip, h3d]
  unfold wpList
  exact hQ _ _ _ _ hK hfin

theorem ASet.app (hΓ : TysOk P Γ) {ops : Array Oper} {p1 p2 p3 p4 p5 o1 o2 o3 : Oper} {e t e' d1 d2 s1 s2 : Nat} {s3 : List Value} {u v x c : Operand} {K : St → Prop}
    (hops : ops.toList = [p1, p2, p3, p4, p5, o1, o2, o3])
    (h1 : o1.op = .call ⟨.builtin .append, #[u, v], #[e, e]⟩) (h1d : o1.dst = some d1) (h1g : o1.guard = none)
    (h2 : o2.op = .indexAddr t x c) (h2d : o2.dst = some d2) (h2g : o2.guard = none) (h3 : o3.op = .store e' (.tmp d2) (.tmp d1)) (h3d : o3.dst = none) (h3g : o3.guard = none)
    (ht' : look Γ t = some ⟨.slice e', s1, s2, s3⟩) (hd : Nat.beq d1 d2 = false)
    (hk : alist P Γ ops.toList [p1, p2, p3, p4, p5] st [] (fun st1 => aset Γ st1 e t u v x c d1 d2 K)) : ASet P ops st K := by
  refine ⟨fun id w0 ob a w ⟨η, h⟩ => wp_region_list ?_⟩
  have nodec : DecOk [] a := fun d b hd => by simp [look] at hd
  have hne : d1 ≠ d2 := fun e => by rw [e, Nat.beq_refl] at hd; cases hd
  have := alist_soundR (P := P) hΓ (opsA := ops) (Q := fun e a' w' => e = .normal ∧ ∃ st', K st' ∧ StRep w0 ob st' a' w') [o1, o2, o3] (fun st1 a1 w1 η1 hk1 hs1 =>
    aset_sound hΓ hs1 hne ht' h1 h1d h1g h2 h2d h2g h3 h3d h3g hk1 (fun st' a' w' η' hK hs' => ⟨rfl, st', hK, η', hs'⟩)) [p1, p2, p3, p4, p5] st [] a w η h nodec hk
  rw [hops]
  exact this

/-- .. of which all orders come to states that an index tells -/
theorem ADraw.midI {ι : Type} {ops : Array Oper} {K : St → Prop} (mid : ι → St) (I : ι → Prop) (h : ADraw P ops st (fun st1 => ∃ i o, Seen o st1 (mid i) ∧ I i)) (hk : ∀ i, I i → K (mid i)) : ADraw P ops st K :=
  ⟨fun id w0 ob a w hr => wp_mono (h.run id w0 ob a w hr) (fun _ _ _ ⟨he, _, ⟨i, _, hv, hi⟩, ⟨_, hs⟩⟩ => ⟨he, mid i, hk i hi, _, hv.rep hs⟩)⟩
end
end Go.Aw
/- The cursor of the draws: next, pick, one. -/
namespace Go.Proofs.YtkomndcehdneaaaGreat
open Go.Aw
set_option maxRecDepth 100000

def OkB (l : List Int) : Prop := l.length ≤ 9223372036854775807 ∧ ∀ x, x ∈ l → 0 ≤ x ∧ x ≤ 255
abbrev cur (code : List Int) (a : Nat) (s : Int) : ARow := .cells 74 [.t (.ints .u8 code), .c (.int .i64 (a)), .c (.int .u64 s)]

theorem W_inr (n : Int) : InR (W n) := by
  unfold InR
  show _ ≤ IntKind.i64.wrap n ∧ IntKind.i64.wrap n ≤ _
  rw [IntKind.wrap_i64]; omega
theorem among_in {l : List Int} {lo hi : Int} {i : Nat} (h : rowIn l lo hi = true) (hl : i < l.length) : lo ≤ l.getD i 0 ∧ l.getD i 0 ≤ hi := by
  simp only [rowIn, inR, List.all_eq_true, decide_eq_true_eq] at h
  exact h _ (getD_mem hl)
theorem and255 (x : Int) : 0 ≤ IntKind.i64.wrap (bits .and .u64 x 255) ∧ IntKind.i64.wrap (bits .and .u64 x 255) ≤ 255 := by
  have h : bits .and .u64 x 255 = IntKind.u64.wrap ((BitVec.ofInt 64 x &&& BitVec.ofInt 64 255).toNat : Int) := rfl
  have h2 : (BitVec.ofInt 64 x &&& BitVec.ofInt 64 255).toNat ≤ 255 := by
    rw [BitVec.toNat_and]
    exact Nat.le_trans Nat.and_le_right (by decide)
  rw [h]
  generalize (BitVec.ofInt 64 x &&& BitVec.ofInt 64 255).toNat = n at h2
  rw [IntKind.wrap_u64, IntKind.wrap_i64]
  omega

theorem tmod_bd {a n : Int} (ha : 0 ≤ a) (hn : 0 < n) : 0 ≤ Int.tmod a n ∧ Int.tmod a n < n := by
  rw [Int.tmod_eq_emod_of_nonneg ha]
  exact ⟨Int.emod_nonneg _ (by omega), Int.emod_lt_of_pos _ hn⟩

theorem next_spec (code : List Int) (hc : OkB code) (a : Nat) (s : Int) (ha : a ≤ 1000000000) :
    TSpec Tryz.prog 191 (cur code a s) [.ptr 0 0] (fun v r => ∃ x s' : Int, v = .c (.int .i64 x) ∧ 0 ≤ x ∧ x ≤ 255 ∧ r = cur code (a + 1) s') := by
  refine tspec tyOk mx Tryz.func191 rfl (by kernel_rfl) rfl rfl ?_
  conv => whnf
  refine ADraw.std tyOk mx ⟨by kernel_rfl, ?_⟩
  conv => whnf
  refine ⟨fun h => ?_, fun h => ?_⟩
  · have h := ltT h
    have hb := hc.2 _ (getD_mem (d := 0) h)
    conv => whnf
    refine ADraw.std tyOk mx ⟨by kernel_rfl, ?_⟩
    conv => whnf
    refine ⟨a, rfl, h, ?_⟩
    conv => whnf
    rw [nat_wrap (by omega)]
    generalize IntKind.u64.wrap (IntKind.u64.wrap (IntKind.u64.wrap (s * 6364136223846793005) + IntKind.u64.wrap (IntKind.i64.wrap (code.getD a 0))) + 462197) = s'
    refine ADraw.std tyOk mx ⟨by kernel_rfl, ?_⟩
    conv => whnf
    refine ⟨fun h1 => ?_, fun h1 => ?_⟩
    · conv => whnf
      have e : IntKind.i64.wrap (code.getD a 0) = code.getD a 0 := w64 (by omega) (by omega)
      exact ⟨_, s', rfl, by omega, by omega, rfl⟩
    · exact absurd (of_decide_eq_false h1) (by omega)
  · have h := ltF h
    conv => whnf
    rw [nat_wrap (by omega)]
    generalize IntKind.u64.wrap (IntKind.u64.wrap (IntKind.u64.wrap (s * 6364136223846793005) + IntKind.u64.wrap 0) + 462197) = s'
    refine ADraw.std tyOk mx ⟨by kernel_rfl, ?_⟩
    conv => whnf
    refine ⟨fun h1 => ?_, fun h1 => ?_⟩
    · exact absurd (of_decide_eq_true h1) (by omega)
    · conv => whnf
      refine ⟨by omega, ?_⟩
      conv => whnf
      have e := and255 (shr IntKind.u64 s' 40)
      exact ⟨_, s', rfl, e.1, e.2, rfl⟩

theorem l1OwnC_spec (l : List Int) (hl : l.length ≤ 1048576) : FSpec Tryz.prog 177 [.t (.ints .i64 l)] (ex (.own 0) [(0, .ints 3 .i64 l)]) := by
  refine fspec tyOk mx Tryz.func177 rfl (by kernel_rfl) rfl ?_
  conv => whnf
  refine ⟨by simp [room]; omega, ?_⟩
  conv => whnf
  exact ⟨rfl, rfl⟩

/-- what a draw tells: a number in bounds, and the cursor moved on a little -/
def drawn (code : List Int) (a k : Nat) (lo hi : Int) (v : AVal) (r : ARow) : Prop :=
  ∃ (x : Int) (a' : Nat) (s' : Int), v = .c (.int .i64 x) ∧ lo ≤ x ∧ x < hi ∧ a ≤ a' ∧ a' ≤ a + k ∧ r = cur code a' s'

theorem pick_spec (code : List Int) (hc : OkB code) (a : Nat) (s : Int) (ha : a ≤ 900000000) (n : Int) (h0 : -1000 ≤ n) (h1 : n ≤ 65536) :
    TSpec Tryz.prog 150 (cur code a s) [.ptr 0 0, .c (.int .i64 (n))] (drawn code a 2 0 (max n 1)) := by
  refine tspec tyOk mx Tryz.func150 rfl (by kernel_rfl) rfl rfl ?_
  conv => whnf
  refine ⟨fun h => ?_, fun h => ?_⟩
  · have h := of_decide_eq_true h
    conv => whnf
    exact ⟨0, a, s, rfl, by omega, by omega, by omega, by omega, rfl⟩
  · have h := of_decide_eq_false h
    conv => whnf
    refine ACallS.tmut 0 (next_spec code hc a s (by omega)) ?_ rfl (by (repeat' (first | exact trivial | exact rfl | refine And.intro ?_ ?_)) <;> (try first | omega | (simp; done))) (by (repeat' (first | exact trivial | exact rfl | refine And.intro ?_ ?_)) <;> (try first | omega | (simp; done)))
    rintro v r ⟨x, s1, rfl, x0, x1, rfl⟩
    conv => whnf
    refine ⟨fun h2 => ?_, fun h2 => ?_⟩
    · have h2 := of_decide_eq_true h2
      conv => whnf
      refine ACallS.tmut 0 (next_spec code hc (a + 1) s1 (by omega)) ?_ rfl (by (repeat' (first | exact trivial | exact rfl | refine And.intro ?_ ?_)) <;> (try first | omega | (simp; done))) (by (repeat' (first | exact trivial | exact rfl | refine And.intro ?_ ?_)) <;> (try first | omega | (simp; done)))
      rintro v r ⟨y, s2, rfl, y0, y1, rfl⟩
      conv => whnf
      refine ⟨by omega, ?_⟩
      conv => whnf
      have e1 : IntKind.i64.wrap (x * 256) = x * 256 := w64 (by omega) (by omega)
      have e2 : IntKind.i64.wrap (x * 256 + y) = x * 256 + y := w64 (by omega) (by omega)
      rw [e1, e2]
      have hz := tmod_bd (a := x * 256 + y) (n := n) (by omega) (by omega)
      refine ⟨_, a + 2, s2, rfl, ?_, ?_, by omega, by omega, rfl⟩
      · omega
      · omega
    · have h2 := of_decide_eq_false h2
      conv => whnf
      refine ⟨by omega, ?_⟩
      conv => whnf
      have hz := tmod_bd (a := x) (n := n) (by omega) (by omega)
      refine ⟨_, a + 1, s1, rfl, ?_, ?_, by omega, by omega, rfl⟩
      · omega
      · omega

def drawnB (code : List Int) (a k : Nat) (v : AVal) (r : ARow) : Prop := ∃ (x : Bool) (a' : Nat) (s' : Int), v = .c (.bool x) ∧ a ≤ a' ∧ a' ≤ a + k ∧ r = cur code a' s'
theorem one_spec (code : List Int) (hc : OkB code) (a : Nat) (s : Int) (ha : a ≤ 900000000) (n : Int) (h0 : -1000 ≤ n) (h1 : n ≤ 65536) :
    TSpec Tryz.prog 76 (cur code a s) [.ptr 0 0, .c (.int .i64 (n))] (drawnB code a 2) := by
  refine tspec tyOk mx Tryz.func76 rfl (by kernel_rfl) rfl rfl ?_
  conv => whnf
  refine ACallS.tmut 0 (pick_spec code hc a s ha n h0 h1) ?_ rfl (by (repeat' (first | exact trivial | exact rfl | refine And.intro ?_ ?_)) <;> (try first | omega | (simp; done))) (by (repeat' (first | exact trivial | exact rfl | refine And.intro ?_ ?_)) <;> (try first | omega | (simp; done)))
  rintro v r ⟨x, a1, s1, rfl, x0, x1, e1, e2, rfl⟩
  conv => whnf
  exact ⟨_, a1, s1, rfl, e1, e2, rfl⟩
end Go.Proofs.YtkomndcehdneaaaGreat
/- Draws of numbers of a list, of sizes. -/
namespace Go.Proofs.YtkomndcehdneaaaGreat
open Go.Aw
set_option maxRecDepth 100000

theorem l1MostC_spec (x y : Int) : FSpec Tryz.prog 100 [.c (.int .i64 (x)), .c (.int .i64 (y))] (ex (.c (.int .i64 (if x < y then y else x))) []) := by
  refine fspec tyOk mx Tryz.func100 rfl (by kernel_rfl) rfl ?_
  conv => whnf
  refine ⟨fun h => ?_, fun h => ?_⟩
  · have h := of_decide_eq_true h
    conv => whnf
    exact ⟨by first | rw [if_pos h] | rw [if_neg (by omega)], rfl⟩
  · have h := of_decide_eq_false h
    conv => whnf
    exact ⟨by first | rw [if_neg h] | (split <;> (first | rfl | (congr 2; omega))), rfl⟩
theorem l1LeastC_spec (x y : Int) : FSpec Tryz.prog 99 [.c (.int .i64 (x)), .c (.int .i64 (y))] (ex (.c (.int .i64 (if x < y then x else y))) []) := by
  refine fspec tyOk mx Tryz.func99 rfl (by kernel_rfl) rfl ?_
  conv => whnf
  refine ⟨fun h => ?_, fun h => ?_⟩
  · have h := of_decide_eq_true h
    conv => whnf
    exact ⟨by first | rw [if_pos h] | rw [if_neg (by omega)], rfl⟩
  · have h := of_decide_eq_false h
    conv => whnf
    exact ⟨by first | rw [if_neg h] | (split <;> (first | rfl | (congr 2; omega))), rfl⟩

/-- one of a list -/
def drawnC (code : List Int) (a : Nat) (lo hi : Int) (v : AVal) (r : ARow) : Prop :=
  ∃ (x : Int) (a' : Nat) (s' : Int), v = .c (.int .i64 x) ∧ lo ≤ x ∧ x ≤ hi ∧ a ≤ a' ∧ a' ≤ a + 2 ∧ r = cur code a' s'
theorem among_spec (code : List Int) (hc : OkB code) (a : Nat) (s : Int) (ha : a ≤ 900000000) (l : List Int) (hl : (Nat.ble 1 l.length && Nat.ble l.length 65536) = true) (lo hi : Int) (hin : rowIn l lo hi = true) :
    TSpec Tryz.prog 151 (cur code a s) [.ptr 0 0, .t (.ints .i64 l)] (drawnC code a lo hi) := by
  simp only [Bool.and_eq_true, Nat.ble_eq] at hl
  refine tspec tyOk mx Tryz.func151 rfl (by kernel_rfl) rfl rfl ?_
  conv => whnf
  refine ACallS.tmut 0 (pick_spec code hc a s ha l.length (by omega) (by omega)) ?_ rfl (by (repeat' (first | exact trivial | exact rfl | refine And.intro ?_ ?_)) <;> (try first | omega | (simp; done))) (by (repeat' (first | exact trivial | exact rfl | refine And.intro ?_ ?_)) <;> (try first | omega | (simp; done)))
  rintro v r ⟨x, a1, s1, rfl, x0, x1, e1, g1, rfl⟩
  conv => whnf
  obtain ⟨i, rfl, hi⟩ := nat_of (len := l.length) x0 (by omega)
  refine ⟨i, rfl, hi, ?_⟩
  conv => whnf
  have h := among_in hin hi
  exact ⟨_, a1, s1, rfl, h.1, h.2, e1, g1, rfl⟩

def near (x : Int) : Nat := (if x < 0 then 0 else if x < 4 then x else 4).toNat
theorem near_le (x : Int) : near x ≤ 4 := by unfold near; omega
theorem l2Near_spec (x : Int) : FSpec Tryz.prog 153 [.c (.int .i64 (x))] (ex (.c (.int .i64 (near x))) []) := by
  refine fspec tyOk mx Tryz.func153 rfl (by kernel_rfl) rfl ?_
  conv => whnf
  refine ACall.use (l1MostC_spec _ _) ?_
  conv => whnf
  refine ACall.use (l1LeastC_spec _ _) ?_
  conv => whnf
  refine ⟨?_, rfl⟩
  have e : (if (if x < 0 then 0 else x) < 4 then (if x < 0 then 0 else x) else 4) = (near x : Int) := by unfold near; omega
  rw [e]

/-- a drawn pair of numbers of questions -/
def drawn2 (code : List Int) (a k : Nat) (v : AVal) (r : ARow) : Prop :=
  ∃ (x y : Int) (a' : Nat) (s' : Int), v = .tu [.c (.int .i64 x), .c (.int .i64 y)] ∧ InR x ∧ InR y ∧ a ≤ a' ∧ a' ≤ a + k ∧ r = cur code a' s'

theorem sizes_spec (code : List Int) (hc : OkB code) (a : Nat) (s : Int) (ha : a ≤ 800000000) :
    TSpec Tryz.prog 97 (cur code a s) [.ptr 0 0] (drawn2 code a 8) := by
  refine tspec tyOk mx Tryz.func97 rfl (by kernel_rfl) rfl rfl ?_
  conv => whnf
  refine ACallS.tmut 0 (one_spec code hc a s (by omega) 2 (by omega) (by omega)) ?_ rfl (by (repeat' (first | exact trivial | exact rfl | refine And.intro ?_ ?_)) <;> (try first | omega | (simp; done))) (by (repeat' (first | exact trivial | exact rfl | refine And.intro ?_ ?_)) <;> (try first | omega | (simp; done)))
  rintro v r ⟨b1, a1, s1, rfl, e_a1, g_a1, rfl⟩
  conv => whnf
  refine ⟨fun h1 => ?_, fun h1 => ?_⟩
  · conv => whnf
    exact ⟨2, 2, a1, s1, rfl, by unfold InR; omega, by unfold InR; omega, by omega, by omega, rfl⟩
  · conv => whnf
    refine ACallS.tmut 0 (one_spec code hc a1 s1 (by omega) 24 (by omega) (by omega)) ?_ rfl (by (repeat' (first | exact trivial | exact rfl | refine And.intro ?_ ?_)) <;> (try first | omega | (simp; done))) (by (repeat' (first | exact trivial | exact rfl | refine And.intro ?_ ?_)) <;> (try first | omega | (simp; done)))
    rintro v r ⟨b2, a2, s2, rfl, e_a2, g_a2, rfl⟩
    conv => whnf
    refine ⟨fun h2 => ?_, fun h2 => ?_⟩
    · conv => whnf
      refine ACallS.inline tyOk mx Tryz.func151 rfl (by kernel_rfl) rfl ?_
      conv => whnf
      refine ACallS.tmut 0 (pick_spec code hc a2 s2 (by omega) 4 (by omega) (by omega)) ?_ rfl (by (repeat' (first | exact trivial | exact rfl | refine And.intro ?_ ?_)) <;> (try first | omega | (simp; done))) (by (repeat' (first | exact trivial | exact rfl | refine And.intro ?_ ?_)) <;> (try first | omega | (simp; done)))
      rintro v r ⟨y, a3, s3, rfl, y0, y1, e_a3, g_a3, rfl⟩
      conv => whnf
      obtain ⟨i, rfl, hi⟩ := nat_of (len := 4) y0 (by omega)
      refine ⟨i, rfl, hi, ?_⟩
      conv => whnf
      have h_x : -1 ≤ (((((List.replicate 4 (0 : Int)).set 0 0).set 1 4).set 2 (-1)).set 3 2).getD i 0 ∧ (((((List.replicate 4 (0 : Int)).set 0 0).set 1 4).set 2 (-1)).set 3 2).getD i 0 ≤ 4 := among_in (by kernel_rfl) hi
      generalize (((((List.replicate 4 (0 : Int)).set 0 0).set 1 4).set 2 (-1)).set 3 2).getD i 0 = x at h_x ⊢
      refine ⟨rfl, ?_⟩
      conv => whnf
      clear y0 y1 hi
      refine ACallS.inline tyOk mx Tryz.func151 rfl (by kernel_rfl) rfl ?_
      conv => whnf
      refine ACallS.tmut 0 (pick_spec code hc a3 s3 (by omega) 4 (by omega) (by omega)) ?_ rfl (by (repeat' (first | exact trivial | exact rfl | refine And.intro ?_ ?_)) <;> (try first | omega | (simp; done))) (by (repeat' (first | exact trivial | exact rfl | refine And.intro ?_ ?_)) <;> (try first | omega | (simp; done)))
      rintro v r ⟨y, a4, s4, rfl, y0, y1, e_a4, g_a4, rfl⟩
      conv => whnf
      obtain ⟨i, rfl, hi⟩ := nat_of (len := 4) y0 (by omega)
      refine ⟨i, rfl, hi, ?_⟩
      conv => whnf
      have h_y : 0 ≤ (((((List.replicate 4 (0 : Int)).set 0 0).set 1 4).set 2 2).set 3 4611686018427387904).getD i 0 ∧ (((((List.replicate 4 (0 : Int)).set 0 0).set 1 4).set 2 2).set 3 4611686018427387904).getD i 0 ≤ 4611686018427387904 := among_in (by kernel_rfl) hi
      generalize (((((List.replicate 4 (0 : Int)).set 0 0).set 1 4).set 2 2).set 3 4611686018427387904).getD i 0 = y at h_y ⊢
      refine ⟨rfl, ?_⟩
      conv => whnf
      clear y0 y1 hi
      exact ⟨x, y, a4, s4, rfl, by unfold InR; omega, by unfold InR; omega, by omega, by omega, rfl⟩
    · conv => whnf
      refine ACallS.tmut 0 (pick_spec code hc a2 s2 (by omega) 3 (by omega) (by omega)) ?_ rfl (by (repeat' (first | exact trivial | exact rfl | refine And.intro ?_ ?_)) <;> (try first | omega | (simp; done))) (by (repeat' (first | exact trivial | exact rfl | refine And.intro ?_ ?_)) <;> (try first | omega | (simp; done)))
      rintro v r ⟨x, a3, s3, rfl, l_x, u_x, e_a3, g_a3, rfl⟩
      conv => whnf
      refine ACallS.tmut 0 (pick_spec code hc a3 s3 (by omega) 3 (by omega) (by omega)) ?_ rfl (by (repeat' (first | exact trivial | exact rfl | refine And.intro ?_ ?_)) <;> (try first | omega | (simp; done))) (by (repeat' (first | exact trivial | exact rfl | refine And.intro ?_ ?_)) <;> (try first | omega | (simp; done)))
      rintro v r ⟨y, a4, s4, rfl, l_y, u_y, e_a4, g_a4, rfl⟩
      conv => whnf
      exact ⟨_, _, a4, s4, rfl, W_inr _, W_inr _, by omega, by omega, rfl⟩

end Go.Proofs.YtkomndcehdneaaaGreat
