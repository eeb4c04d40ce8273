/- Perfect plays, scores of boxes: reference and program. -/
import Derived.Test.YtmnbjocoiciffaaGame4
import Derived.Test.YtmnbjocoiciffaaWorth
namespace Go.Proofs.Ytmnbjocoiciffaa
open Go.Aw
set_option maxRecDepth 100000
set_option maxHeartbeats 4000000

theorem l4Total_spec (x y : Int) (s : List Int) (m : List (List Int)) (hs : s.length ≤ 1048576) :
    FSpec Try.prog 88 [.ag [.c (.int .i64 (x)), .c (.int .i64 (y)), .t (.ints .i64 s), .t (.rows m)]] (ex (.c (.int .i64 (sumF s s.length))) []) := by
  refine fspec tyOk mx Try.func88 rfl (by kernel_rfl) rfl ?_
  conv => whnf
  refine aloopI tyOk mx (fun k : Nat => (⟨20, [(1, .ptr 0 0), (3, .c (.int .i64 (sumF s k))), (4, .c (.int .i64 (k)))], [(0, .cells 29 [.c (.int .i64 (x)), .c (.int .i64 (y)), .t (.ints .i64 s), .t (.rows m)])], 1⟩ : St)) (fun k => k ≤ s.length) (fun k => s.length - k) 0 (Nat.zero_le _) none (by refine ⟨rfl, rfl, ?_, ?_⟩ <;> ((repeat' (first | exact trivial | exact rfl | refine And.intro ?_ ?_)) <;> (try ((conv => whnf); first | refine vint ?_ | refine vboo ?_ | refine rint ?_ | refine rrow ?_ | skip)) <;> (try first | omega | (simp; done) | ((repeat rw [flts_closed _ (by assumption)]); exact vws_closed _ (by assumption))))) (fun k hk => ?_)
  refine ⟨fun h => ?_, fun h => ?_⟩
  · have h := ltT h
    conv => whnf
    refine ⟨k, rfl, h, ?_⟩
    conv => whnf
    rw [nat_wrap (by omega)]
    exact ⟨k + 1, none, (by refine ⟨rfl, rfl, ?_, ?_⟩ <;> ((repeat' (first | exact trivial | exact rfl | refine And.intro ?_ ?_)) <;> (try ((conv => whnf); first | refine vint ?_ | refine vboo ?_ | refine rint ?_ | refine rrow ?_ | skip)) <;> (try first | omega | (simp; done) | ((repeat rw [flts_closed _ (by assumption)]); exact vws_closed _ (by assumption))))), by omega, by omega⟩
  · have h := ltF h
    obtain rfl : k = s.length := by omega
    conv => whnf
    exact ⟨rfl, rfl⟩

def ppOk (x y : Int) (s : List Int) (m : List (List Int)) : Bool := goodG x y s m && (lostTo s m (bestPl s m x.toNat y.toNat) x.toNat y.toNat x.toNat).isEmpty
def ppRes (x y : Int) (s : List Int) (m : List (List Int)) : List Int := if ppOk x y s m then bestPl s m x.toNat y.toNat else []
theorem pp_iff {nx ny : Nat} {s : List Int} {m : List (List Int)} (hx : nx ≤ 3) (hy : ny ≤ 3) (hs : s.length = nx * ny) (g8 : ∀ v, v ∈ s → 0 ≤ v ∧ v ≤ 99) (g10 : ∀ r, r ∈ m → r.length = 4 ∧ ∀ v, v ∈ r → 0 ≤ v ∧ v ≤ 1) (p : List Int) :
    (scoreTo s m p nx ny nx < sumF s s.length ↔ lostTo s m p nx ny nx ≠ []) := by
  obtain ⟨i0, i1, i2, i3⟩ := to_cmp (p := p) g8 g10 nx ny hy nx hx
  rw [totTo_flat, ← hs] at i1 i3
  constructor
  · intro h he
    have := i3.2 he
    omega
  · intro h
    have : scoreTo s m p nx ny nx ≠ sumF s s.length := fun e => h (i3.1 e)
    omega

theorem PerfectPlay_s (x y : Int) (s : List Int) (m : List (List Int)) (_hx : InR x) (_hy : InR y) (_hs : OkI s) (_hm : OkM m) (ks : SzI s) (km : SzM m) :
    FSpec Try.prog 54 [.ag [.c (.int .i64 (x)), .c (.int .i64 (y)), .t (.ints .i64 s), .t (.rows m)]] (ex (.tu [.own 0, .c (.bool (ppOk x y s m))]) [(0, .ints 3 .i64 (ppRes x y s m))]) := by
  refine fspec tyOk mx Try.func54 rfl (by kernel_rfl) rfl ?_
  conv => whnf
  refine ACall.use (l4Game_spec x y s m ks km) ?_
  conv => whnf
  refine ⟨fun h => ?_, fun h => ?_⟩
  · have h : goodG x y s m = false := by simpa using h
    have e : ppOk x y s m = false := by rw [ppOk, h]; rfl
    conv => whnf
    refine ⟨?_, ?_⟩
    · rw [e]
    · rw [ppRes, e]; rfl
  · have h : goodG x y s m = true := by simpa using h
    have hg := h
    obtain ⟨nx, ny, rfl, rfl, g1, g2, g3, g4, g5, g6, g7, g8, g9, g10⟩ := goodG_spec h
    have h4 : ∀ r, r ∈ m → r.length = 4 := fun r hr => (g10 r hr).1
    obtain ⟨b1, b2⟩ := best_bits s m (nx := nx) (ny := ny) (by omega)
    have hiff := pp_iff g2 g4 g5 g8 g10 (bestPl s m nx ny)
    conv => whnf
    refine ACall.use (l4Best_spec nx ny s m g2 g4 g5 g6 h4) ?_
    conv => whnf
    refine ADraw.std tyOk mx ⟨by kernel_rfl, ?_⟩
    conv => whnf
    refine QCall.use (l4Score_spec nx ny s m (bestPl s m nx ny) g2 g4 g5 g6 h4 b2 b1) ?_
    conv => whnf
    refine QCall.use (l4Total_spec nx ny s m (by omega)) ?_
    conv => whnf
    refine ⟨fun h2 => ?_, fun h2 => ?_⟩
    · have h2 := hiff.1 (of_decide_eq_true h2)
      have e : ppOk nx ny s m = false := by
        rw [ppOk, hg, Bool.true_and, List.isEmpty_eq_false_iff]; exact h2
      conv => whnf
      refine ⟨?_, ?_⟩
      · rw [e]
      · rw [ppRes, e]; rfl
    · have h2 : lostTo s m (bestPl s m nx ny) nx ny nx = [] := Classical.byContradiction fun hc => of_decide_eq_false h2 (hiff.2 hc)
      have e : ppOk nx ny s m = true := by
        rw [ppOk, hg, Bool.true_and, List.isEmpty_iff]; exact h2
      conv => whnf
      refine ⟨?_, ?_⟩
      · rw [e]
      · rw [ppRes, e]; rfl

theorem PerfectPlay_i (x y : Int) (s : List Int) (m : List (List Int)) (_hx : InR x) (_hy : InR y) (_hs : OkI s) (_hm : OkM m) (ks : SzI s) (km : SzM m) :
    FSpec Try.prog 55 [.ag [.c (.int .i64 (x)), .c (.int .i64 (y)), .t (.ints .i64 s), .t (.rows m)]] (ex (.tu [.own 0, .c (.bool (ppOk x y s m))]) [(0, .ints 3 .i64 (ppRes x y s m))]) := by
  refine view_ints ?_
  refine fspec tyOk mx Try.func55 rfl (by kernel_rfl) rfl ?_
  conv => whnf
  refine ACall.use (iBestPlay_spec x y s m ks km) ?_
  conv => whnf
  refine ⟨fun h => ?_, fun h => ?_⟩
  · have h : goodG x y s m = true := by simpa using h
    have hg := h
    obtain ⟨nx, ny, rfl, rfl, g1, g2, g3, g4, g5, g6, g7, g8, g9, g10⟩ := goodG_spec h
    have h4 : ∀ r, r ∈ m → r.length = 4 := fun r hr => (g10 r hr).1
    obtain ⟨b1, b2⟩ := best_bits s m (nx := nx) (ny := ny) (by omega)
    have hv : bpRow nx ny s m = bestPl s m nx ny := by rw [bpRow, hg]; rfl
    rw [hv]
    conv => whnf
    refine ACall.use (lost_spec nx ny s m (bestPl s m nx ny) g2 g4 g5 g6 h4 b2 b1) ?_
    conv => whnf
    refine ⟨fun h2 => ?_, fun h2 => ?_⟩
    · have h2 := of_decide_eq_true h2
      have e : ppOk nx ny s m = false := by
        rw [ppOk, hg, Bool.true_and, List.isEmpty_eq_false_iff]
        show lostTo s m (bestPl s m nx ny) nx ny nx ≠ []
        intro hc; rw [hc] at h2; simp at h2
      conv => whnf
      exact .inl ⟨e, rfl, rfl⟩
    · have h2 := of_decide_eq_false h2
      have e : ppOk nx ny s m = true := by
        rw [ppOk, hg, Bool.true_and, List.isEmpty_iff]
        show lostTo s m (bestPl s m nx ny) nx ny nx = []
        exact List.length_eq_zero_iff.1 (by omega)
      conv => whnf
      exact .inr ⟨e, rfl, rfl⟩
  · have h : goodG x y s m = false := by simpa using h
    have e : ppOk x y s m = false := by rw [ppOk, h]; rfl
    (repeat (conv => whnf); (first | refine ⟨fun h => absurd h (by decide), fun _ => ?_⟩ | refine ⟨fun _ => ?_, fun h => absurd h (by decide)⟩)); conv => whnf
    exact .inl ⟨e, rfl, rfl⟩
theorem PerfectPlay_bd (x y : Int) (s : List Int) (m : List (List Int)) (_hx : InR x) (_hy : InR y) (_hs : OkI s) (_hm : OkM m) (_ks : SzI s) (_km : SzM m) : (ppRes x y s m).length ≤ 1000000 := by
  unfold ppRes
  split
  · rename_i h
    simp only [ppOk, Bool.and_eq_true] at h
    obtain ⟨nx, ny, rfl, rfl, g1, g2, g3, g4, _⟩ := goodG_spec h.1
    have := (best_bits s m (nx := nx) (ny := ny) (by omega)).1
    simp only [Int.toNat_natCast]
    omega
  · simp

/-- a game and a box with as many questions -/
def gbOk (x y : Int) (s : List Int) (m : List (List Int)) (bx by' bz : Int) (bm : List (List Int)) : Bool := goodG x y s m && goodB bx by' bz bm && decide (bx = x) && decide (by' = y)
def gbV (x y : Int) (s : List Int) (m : List (List Int)) (bx by' bz : Int) (bm : List (List Int)) : Int := if gbOk x y s m bx by' bz bm then worthF (funG s m) bm else 0
theorem funG_rows {s : List Int} {m : List (List Int)} (h4 : ∀ r, r ∈ m → r.length = 4) : ∀ r, r ∈ funG s m → r.length = 4 := fun r hr => by
  obtain ⟨i, hi, rfl⟩ := List.mem_map.1 hr
  rw [fnGRow, List.length_map]
  exact h4 _ (getD_mem (by simpa using hi))
theorem iBoxScore_spec (x y : Int) (s : List Int) (m : List (List Int)) (bx by' bz : Int) (bm : List (List Int)) (ks : SzI s) (km : SzM m) (kb : SzM bm) :
    FSpec Try.prog 53 [.ag [.c (.int .i64 (x)), .c (.int .i64 (y)), .t (.ints .i64 s), .t (.rows m)], .ag [.c (.int .i64 (bx)), .c (.int .i64 (by')), .c (.int .i64 (bz)), .t (.rows bm)]] (ex (.tu [.c (.int .i64 (gbV x y s m bx by' bz bm)), .c (.bool (gbOk x y s m bx by' bz bm))]) []) := by
  have no : gbOk x y s m bx by' bz bm = false → gbV x y s m bx by' bz bm = 0 := fun h => by rw [gbV, h]; rfl
  refine fspec tyOk mx Try.func53 rfl (by kernel_rfl) rfl ?_
  conv => whnf
  refine ACall.use (iIsGame_spec x y s m ks km) ?_
  conv => whnf
  refine ⟨fun h => ?_, fun h => ?_⟩
  · have h : goodG x y s m = true := by simpa using h
    conv => whnf
    refine ACall.use (IsBox_spec bx by' bz bm kb) ?_
    conv => whnf
    refine ⟨fun h2 => ?_, fun h2 => ?_⟩
    · have h2 : goodB bx by' bz bm = true := by simpa using h2
      conv => whnf
      refine ⟨fun h3 => ?_, fun h3 => ?_⟩
      · have h3 : bx = x := by simpa using h3
        conv => whnf
        refine ⟨fun h5 => ?_, fun h5 => ?_⟩
        · have h5 : ¬ by' = y := by simpa using h5
          have e : gbOk x y s m bx by' bz bm = false := by rw [gbOk, decide_eq_false h5, Bool.and_false]
          conv => whnf
          exact ⟨by rw [no e, e], rfl⟩
        · have h5 : by' = y := by simpa using h5
          subst h3; subst h5
          have e : gbOk bx by' s m bx by' bz bm = true := by rw [gbOk, h, h2]; simp
          obtain ⟨nx, ny, rfl, rfl, g1, g2, g3, g4, g5, g6, g7, g8, g9, g10⟩ := goodG_spec h
          obtain ⟨_, _, e1, e2, _, _, _, _, _, _, q7, q8, q9⟩ := goodB_spec h2
          obtain rfl := Int.ofNat_inj.1 e1
          obtain rfl := Int.ofNat_inj.1 e2
          have h4 : ∀ r, r ∈ m → r.length = 4 := fun r hr => (g10 r hr).1
          have hl : (funG s m).length = bm.length := by rw [q7, ← g6]; simp [funG]
          conv => whnf
          refine ADraw.plan tyOk mx (.q 0 (.q 2 (.q 3 (.last 1 (.last 4 (.q 5 (.q 6 (.done))))))) : Plan) (by kernel_rfl) ?_
          conv => whnf
          refine ACall.useR (functional_spec _ _ s m (by omega) (by omega) (fun r hr => by have := h4 r hr; omega)) ?_
          conv => whnf
          refine ACall.useR (worth_spec (funG s m) bm hl (by omega) (funG_rows h4) (fun r hr => (q9 r hr).1)) ?_
          conv => whnf
          exact ⟨by rw [gbV, e]; rfl, rfl⟩
      · have h3 : ¬ bx = x := by simpa using h3
        have e : gbOk x y s m bx by' bz bm = false := by rw [gbOk, decide_eq_false h3]; simp
        (repeat (conv => whnf); (first | refine ⟨fun h => absurd h (by decide), fun _ => ?_⟩ | refine ⟨fun _ => ?_, fun h => absurd h (by decide)⟩)); conv => whnf
        exact ⟨by rw [no e, e], rfl⟩
    · have h2 : goodB bx by' bz bm = false := by simpa using h2
      have e : gbOk x y s m bx by' bz bm = false := by rw [gbOk, h2]; simp
      (repeat (conv => whnf); (first | refine ⟨fun h => absurd h (by decide), fun _ => ?_⟩ | refine ⟨fun _ => ?_, fun h => absurd h (by decide)⟩)); conv => whnf
      exact ⟨by rw [no e, e], rfl⟩
  · have h : goodG x y s m = false := by simpa using h
    have e : gbOk x y s m bx by' bz bm = false := by rw [gbOk, h]; simp
    (repeat (conv => whnf); (first | refine ⟨fun h => absurd h (by decide), fun _ => ?_⟩ | refine ⟨fun _ => ?_, fun h => absurd h (by decide)⟩)); conv => whnf
    exact ⟨by rw [no e, e], rfl⟩
theorem BoxScore_s (x y : Int) (s : List Int) (m : List (List Int)) (_hx : InR x) (_hy : InR y) (_hs : OkI s) (_hm : OkM m) (ks : SzI s) (km : SzM m) (bx by' bz : Int) (bm : List (List Int)) (_hbx : InR bx) (_hby : InR by') (_hbz : InR bz) (_hbm : OkM bm) (kb : SzM bm) :
    FSpec Try.prog 52 [.ag [.c (.int .i64 (x)), .c (.int .i64 (y)), .t (.ints .i64 s), .t (.rows m)], .ag [.c (.int .i64 (bx)), .c (.int .i64 (by')), .c (.int .i64 (bz)), .t (.rows bm)]] (ex (.tu [.c (.int .i64 (gbV x y s m bx by' bz bm)), .c (.bool (gbOk x y s m bx by' bz bm))]) []) := by
  have no : gbOk x y s m bx by' bz bm = false → gbV x y s m bx by' bz bm = 0 := fun h => by rw [gbV, h]; rfl
  refine fspec tyOk mx Try.func52 rfl (by kernel_rfl) rfl ?_
  conv => whnf
  refine ACall.use (l4Game_spec x y s m ks km) ?_
  conv => whnf
  refine ⟨fun h => ?_, fun h => ?_⟩
  · have h : goodG x y s m = true := by simpa using h
    conv => whnf
    refine ACall.use (l2Box_spec bx by' bz bm kb) ?_
    conv => whnf
    refine ⟨fun h2 => ?_, fun h2 => ?_⟩
    · have h2 : goodB bx by' bz bm = true := by simpa using h2
      conv => whnf
      refine ⟨fun h3 => ?_, fun h3 => ?_⟩
      · have h3 : x = bx := by simpa using h3
        conv => whnf
        refine ⟨fun h5 => ?_, fun h5 => ?_⟩
        · have h5 : ¬ y = by' := by simpa using h5
          have e : gbOk x y s m bx by' bz bm = false := by rw [gbOk, decide_eq_false (show ¬ by' = y from fun e => h5 e.symm), Bool.and_false]
          conv => whnf
          exact ⟨by rw [no e, e], rfl⟩
        · have h5 : y = by' := by simpa using h5
          subst h3; subst h5
          have e : gbOk x y s m x y bz bm = true := by rw [gbOk, h, h2]; simp
          obtain ⟨nx, ny, rfl, rfl, g1, g2, g3, g4, g5, g6, g7, g8, g9, g10⟩ := goodG_spec h
          obtain ⟨_, _, e1, e2, _, _, _, _, _, _, q7, q8, q9⟩ := goodB_spec h2
          obtain rfl := Int.ofNat_inj.1 e1
          obtain rfl := Int.ofNat_inj.1 e2
          have h4 : ∀ r, r ∈ m → r.length = 4 := fun r hr => (g10 r hr).1
          have hl : (funG s m).length = bm.length := by rw [q7, ← g6]; simp [funG]
          conv => whnf
          refine ADraw.plan tyOk mx (.q 0 (.q 2 (.last 1 (.last 3 (.q 4 (.q 5 (.done)))))) : Plan) (by kernel_rfl) ?_
          conv => whnf
          refine ACall.useR (l4Functional_spec _ _ s m (by omega) (by omega) h4) ?_
          conv => whnf
          refine ACall.useR (l2Worth_spec (funG s m) bm _ _ bz hl (by omega) (funG_rows h4) (fun r hr => (q9 r hr).1)) ?_
          conv => whnf
          exact ⟨by rw [gbV, e]; rfl, rfl⟩
      · have h3 : ¬ x = bx := by simpa using h3
        have e : gbOk x y s m bx by' bz bm = false := by rw [gbOk, decide_eq_false (show ¬ bx = x from fun e => h3 e.symm)]; simp
        (repeat (conv => whnf); (first | refine ⟨fun h => absurd h (by decide), fun _ => ?_⟩ | refine ⟨fun _ => ?_, fun h => absurd h (by decide)⟩)); conv => whnf
        exact ⟨by rw [no e, e], rfl⟩
    · have h2 : goodB bx by' bz bm = false := by simpa using h2
      have e : gbOk x y s m bx by' bz bm = false := by rw [gbOk, h2]; simp
      (repeat (conv => whnf); (first | refine ⟨fun h => absurd h (by decide), fun _ => ?_⟩ | refine ⟨fun _ => ?_, fun h => absurd h (by decide)⟩)); conv => whnf
      exact ⟨by rw [no e, e], rfl⟩
  · have h : goodG x y s m = false := by simpa using h
    have e : gbOk x y s m bx by' bz bm = false := by rw [gbOk, h]; simp
    (repeat (conv => whnf); (first | refine ⟨fun h => absurd h (by decide), fun _ => ?_⟩ | refine ⟨fun _ => ?_, fun h => absurd h (by decide)⟩)); conv => whnf
    exact ⟨by rw [no e, e], rfl⟩
theorem BoxScore_i (x y : Int) (s : List Int) (m : List (List Int)) (_hx : InR x) (_hy : InR y) (_hs : OkI s) (_hm : OkM m) (ks : SzI s) (km : SzM m) (bx by' bz : Int) (bm : List (List Int)) (_hbx : InR bx) (_hby : InR by') (_hbz : InR bz) (_hbm : OkM bm) (kb : SzM bm) :
    FSpec Try.prog 53 [.ag [.c (.int .i64 (x)), .c (.int .i64 (y)), .t (.ints .i64 s), .t (.rows m)], .ag [.c (.int .i64 (bx)), .c (.int .i64 (by')), .c (.int .i64 (bz)), .t (.rows bm)]] (ex (.tu [.c (.int .i64 (gbV x y s m bx by' bz bm)), .c (.bool (gbOk x y s m bx by' bz bm))]) []) := iBoxScore_spec x y s m bx by' bz bm ks km kb
end Go.Proofs.Ytmnbjocoiciffaa
