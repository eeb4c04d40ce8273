/- Noise, and the play of a box: reference and program. -/
import Derived.Test.YtkomndcehdneaaaM3
import Derived.Test.YtkomndcehdneaaaM2
namespace Go.Aw
/-- no list, an empty one, or a list -/
def nilOrList (ok : Bool) (e : Nat) (L : List Int) : AVal → List (Nat × ARow) → Prop := fun v h =>
  (ok = false ∧ v = .tu [.c (.slice none 0 0), .c (.bool false)] ∧ h = []) ∨ (ok = false ∧ v = .tu [.own 0, .c (.bool false)] ∧ h = [(0, .ints e .i64 [])]) ∨ (ok = true ∧ v = .tu [.own 0, .c (.bool true)] ∧ h = [(0, .ints e .i64 L)])
theorem view_list {P : Program} {f : FuncId} {args : List AVal} {ok : Bool} {e : Nat} {L : List Int} (h : FSpec P f args (nilOrList ok e L)) :
    FSpec P f args (ex (.tu [.t (.ints .i64 (if ok then L else [])), .c (.bool ok)]) []) := by
  refine FSpec.view h ?_
  rintro v hr (⟨rfl, rfl, rfl⟩ | ⟨rfl, rfl, rfl⟩ | ⟨rfl, rfl, rfl⟩)
  · exact ⟨[], .tu [.t (.ints .i64 []), .c (.bool false)], [], rfl, trivial, ⟨rfl, rfl, trivial⟩, rfl, rfl⟩
  · exact ⟨[], .tu [.t (.ints .i64 []), .c (.bool false)], [], rfl, trivial, ⟨⟨rfl, rfl⟩, rfl, trivial⟩, rfl, rfl⟩
  · exact ⟨[], .tu [.t (.ints .i64 L), .c (.bool true)], [], rfl, trivial, ⟨⟨rfl, rfl⟩, rfl, trivial⟩, rfl, rfl⟩
end Go.Aw
namespace Go.Proofs.Ytkomndcehdneaaa
open Go.Aw
set_option maxRecDepth 100000
set_option maxHeartbeats 4000000

def nzOk (x y p : Int) : Bool := szOk x y && inR p 1 250
def nzR (x y p : Int) : List (List Int) := if nzOk x y p then boxRows (fun _ _ _ _ => p) x.toNat y.toNat else []
theorem nz1_spec (p : Int) (i k a b : Nat) : FSpec Try.prog 211 [.c (.int .i64 (i)), .c (.int .i64 (k)), .c (.int .i64 (a)), .c (.int .i64 (b)), .rp [.c (.int .i64 (p))] 0] (ex (.c (.int .i64 (p))) []) := by
  refine fspec tyOk mx Try.func211 rfl (by kernel_rfl) rfl ?_
  conv => whnf
  exact ⟨rfl, rfl⟩
theorem NoiseBox_i (x y p : Int) : FSpec Try.prog 91 [.c (.int .i64 (x)), .c (.int .i64 (y)), .c (.int .i64 (p))]
    (ex (.tu [.ag [.c (.int .i64 (if nzOk x y p then x else 0)), .c (.int .i64 (if nzOk x y p then y else 0)), .c (.int .i64 (if nzOk x y p then 4 * p else 0)), .own 0], .c (.bool (nzOk x y p))]) [(0, .rows 25 3 true (nzR x y p))]) := by
  refine view_box ?_
  refine fspec tyOk mx Try.func91 rfl (by kernel_rfl) rfl ?_
  conv => whnf
  refine ACall.use (areQuestions_spec x y) ?_
  conv => whnf
  refine ⟨fun h => ?_, fun h => ?_⟩
  · have h : szOk x y = true := by simpa using h
    obtain ⟨nx, ny, rfl, rfl, x1, x3, y1, y3, _, _⟩ := szOk_nat h
    conv => whnf
    refine ACall.use (within_spec p 1 250) ?_
    conv => whnf
    refine ⟨fun h2 => ?_, fun h2 => ?_⟩
    · have h2 : inR p 1 250 = false := by simpa using h2
      conv => whnf
      exact .inl ⟨by rw [nzOk, h2]; simp, rfl, rfl⟩
    · have h2 : inR p 1 250 = true := by simpa using h2
      have hp := inR_iff.1 h2
      have ew : IntKind.i64.wrap (4 * p) = 4 * p := w64 (by omega) (by omega)
      conv => whnf
      rw [ew]
      refine ACall.use (newBox_spec nx ny (4 * p) _ [.rp [.c (.int .i64 (p))] 0] (fun _ _ _ _ => p) (by omega) (by omega) (fun _ _ => rfl) rfl (fun i k a b _ _ _ _ => nz1_spec p i k a b)) ?_
      conv => whnf
      exact .inr ⟨by rw [nzOk, h, h2]; rfl, rfl, rfl⟩
  · have h : szOk x y = false := by simpa using h
    (repeat (conv => whnf); (first | refine ⟨fun h => absurd h (by decide), fun _ => ?_⟩ | refine ⟨fun _ => ?_, fun h => absurd h (by decide)⟩)); conv => whnf
    exact .inl ⟨by rw [nzOk, h]; rfl, rfl, rfl⟩
def quz (z v : Int) : Int := W (Int.tdiv v z)
def pofL (nx ny : Nat) (z : Int) (m : List (List Int)) : List Int := (List.range nx).map (fun x => quz z (one0 (m.getD (x * ny + 0) []))) ++ (List.range ny).map (fun y => quz z (one1 (m.getD (0 * ny + y) [])))
def poV (x y z : Int) (m : List (List Int)) : List Int := pofL x.toNat y.toNat z m
def pfOk (x y z : Int) (m : List (List Int)) : Bool := goodB x y z m && alkB z 1 m (pgM (poV x y z m) x.toNat y.toNat 1)
theorem pofL_len (nx ny : Nat) (z : Int) (m : List (List Int)) : (pofL nx ny z m).length = nx + ny := by simp [pofL]
theorem one_bd {r : List Int} {z : Int} (hz : z ≤ 1000) (h1 : r.length = 4) (h2 : ∀ v, v ∈ r → 0 ≤ v ∧ v ≤ z) (h3 : sumF r r.length = z) : (0 ≤ one0 r ∧ one0 r ≤ z) ∧ 0 ≤ one1 r ∧ one1 r ≤ z := by
  obtain ⟨a, b, c, d, rfl, ha, hb, hc, hd, hs⟩ := row4 hz h1 h2 h3
  have e0 : one0 [a, b, c, d] = W (c + d) := rfl
  have e1 : one1 [a, b, c, d] = W (b + d) := rfl
  rw [e0, e1, wS (n := c + d) (by omega) (by omega), wS (n := b + d) (by omega) (by omega)]
  omega
theorem quz_01 {z v : Int} (hz : 1 ≤ z) (hz2 : z ≤ 1000) (h : 0 ≤ v ∧ v ≤ z) : 0 ≤ quz z v ∧ quz z v ≤ 1 := by
  have e : Int.tdiv v z = v / z := Int.tdiv_eq_ediv_of_nonneg h.1
  have h0 : 0 ≤ v / z := Int.ediv_nonneg h.1 (by omega)
  have h1 : v / z ≤ z / z := Int.ediv_le_ediv (by omega) h.2
  rw [Int.ediv_self (by omega)] at h1
  rw [quz, e, wS (by omega) (by omega)]
  exact ⟨h0, h1⟩
theorem pofL_01 {x y z : Int} {m : List (List Int)} (h : goodB x y z m = true) : ∀ v, v ∈ poV x y z m → 0 ≤ v ∧ v ≤ 1 := fun v hv => by
  obtain ⟨nx, ny, rfl, rfl, g1, g2, g3, g4, g5, g6, g7, g8, g9⟩ := goodB_spec h
  rw [poV, Int.toNat_natCast, Int.toNat_natCast, pofL, List.mem_append] at hv
  rcases hv with hv | hv
  · obtain ⟨i, hi, rfl⟩ := List.mem_map.1 hv
    have hi := List.mem_range.1 hi
    have hix := ix_lt hi (show 0 < ny by omega)
    obtain ⟨q1, q2, q3⟩ := g9 _ (getD_mem (d := []) (show i * ny + 0 < m.length by omega))
    exact quz_01 g5 g6 (one_bd g6 q1 q2 q3).1
  · obtain ⟨i, hi, rfl⟩ := List.mem_map.1 hv
    have hi := List.mem_range.1 hi
    have hix := ix_lt (show 0 < nx by omega) hi
    obtain ⟨q1, q2, q3⟩ := g9 _ (getD_mem (d := []) (show 0 * ny + i < m.length by omega))
    exact quz_01 g5 g6 (one_bd g6 q1 q2 q3).2
theorem PlayOf_i (x y z : Int) (m : List (List Int)) (km : SzM m) : FSpec Try.prog 93 [.ag [.c (.int .i64 (x)), .c (.int .i64 (y)), .c (.int .i64 (z)), .t (.rows m)]] (ex (.tu [.t (.ints .i64 (if pfOk x y z m then poV x y z m else [])), .c (.bool (pfOk x y z m))]) []) := by
  refine view_list (e := 3) ?_
  refine fspec tyOk mx Try.func93 rfl (by kernel_rfl) rfl ?_
  conv => whnf
  refine ACall.use (IsBox_spec x y z m km) ?_
  conv => whnf
  refine ⟨fun h => ?_, fun h => ?_⟩
  · have h : goodB x y z m = false := by simpa using h
    conv => whnf
    exact .inl ⟨by rw [pfOk, h]; rfl, rfl, rfl⟩
  · have h : goodB x y z m = true := by simpa using h
    have h' := h
    have h01 := pofL_01 h
    obtain ⟨nx, ny, rfl, rfl, g1, g2, g3, g4, g5, g6, g7, g8, g9⟩ := goodB_spec h'
    have h4 : ∀ r, r ∈ m → r.length = 4 := fun r hr => (g9 r hr).1
    have ev : poV nx ny z m = pofL nx ny z m := by rw [poV, Int.toNat_natCast, Int.toNat_natCast]
    have hn : nx * ny ≤ 3 * 3 := Nat.mul_le_mul g2 g4
    conv => whnf
    refine ACall.use (questions_spec _ _ _ _) ?_
    conv => whnf
    refine aloopI tyOk mx (fun p : Nat => (⟨49, [(1, .ptr 0 0), (3, .c (.bool false)), (4, .ptr 2 0), (5, .own 1), (14, .c (.int .i64 (p)))], [(0, .cells 53 [.c (.int .i64 (nx)), .c (.int .i64 (ny)), .c (.int .i64 (z)), .t (.rows m)]), (1, .ints 3 .i64 (match p with | 0 => [] | 1 => (List.range nx).map (fun x => quz z (one0 (m.getD (x * ny + 0) []))) | _ => pofL nx ny z m)), (2, .cells 158 [.c (.int .i64 (nx)), .c (.int .i64 (ny))])], 3⟩ : St)) (fun p => p ≤ 2) (fun p => 2 - p) 0 (by omega) none (by refine ⟨rfl, rfl, ?_, ?_⟩ <;> ((repeat' (first | exact trivial | exact rfl | refine And.intro ?_ ?_)) <;> (try ((conv => whnf); first | refine vint ?_ | refine vboo ?_ | refine rint ?_ | refine rrow ?_ | skip)) <;> (try first | omega | (simp; done) | ((repeat rw [flts_closed _ (by assumption)]); exact vws_closed _ (by assumption))))) (fun p hp => ?_)
    refine ⟨fun h => ?_, fun h => ?_⟩
    · have h : p < 2 := by have := of_decide_eq_true h; omega
      have hp2 : p = 0 ∨ p = 1 := by omega
      rcases hp2 with rfl | rfl
      · conv => whnf
        refine ⟨0, rfl, by omega, by simp, ?_⟩
        conv => whnf
        refine aloopI tyOk mx (fun x : Nat => (⟨49, [(1, .ptr 0 0), (3, .c (.bool false)), (4, .ptr 2 0), (5, .own 1), (6, .c (.int .i64 ((0 : Nat)))), (14, .c (.int .i64 ((0 : Nat)))), (19, .c (.int .i64 (nx))), (20, .c (.int .i64 (x)))], [(0, .cells 53 [.c (.int .i64 (nx)), .c (.int .i64 (ny)), .c (.int .i64 (z)), .t (.rows m)]), (1, .ints 3 .i64 ((List.range x).map (fun x => quz z (one0 (m.getD (x * ny + 0) []))))), (2, .cells 158 [.c (.int .i64 (nx)), .c (.int .i64 (ny))])], 3⟩ : St)) (fun x => x ≤ nx) (fun x => nx - x) 0 (Nat.zero_le _) none (by refine ⟨rfl, rfl, ?_, ?_⟩ <;> ((repeat' (first | exact trivial | exact rfl | refine And.intro ?_ ?_)) <;> (try ((conv => whnf); first | refine vint ?_ | refine vboo ?_ | refine rint ?_ | refine rrow ?_ | skip)) <;> (try first | omega | (simp; done) | ((repeat rw [flts_closed _ (by assumption)]); exact vws_closed _ (by assumption))))) (fun x hx2 => ?_)
        refine ⟨fun h2 => ?_, fun h2 => ?_⟩
        · have h2 := ltT h2
          have hlt := ix_lt h2 (show 0 < ny by omega)
          conv => whnf
          refine ADraw.plan tyOk mx (.q 0 (.q 1 (.q 2 (.q 3 (.q 5 (.q 6 (.last 4 (.q 7 (.last 8 (.last 9 (.q 10 (.done))))))))))) : Plan) (by kernel_rfl) ?_
          conv => whnf
          repeat' (first
            | (refine ACall.useR (ones0_spec nx ny x 0 z m (by omega) (by omega) h4) ?_; conv => whnf)
            | (refine ⟨(by omega : z ≠ 0), ?_⟩; conv => whnf)
            | (refine ⟨(by simp [room]; omega : _ ≤ room), ?_⟩; conv => whnf)
            | (refine And.intro ?_ ?_ <;> (conv => whnf)))
          all_goals
            rw [nat_wrap (by omega)]
            refine ⟨x + 1, none, ?_, by omega, by omega⟩
            (refine ⟨rfl, rfl, ?_, ?_⟩ <;> ((repeat' (first | exact trivial | exact rfl | refine And.intro ?_ ?_)) <;> (try ((conv => whnf); first | refine vint ?_ | refine vboo ?_ | refine rint ?_ | refine rrow ?_ | skip)) <;> (try first | omega | (simp; done) | ((repeat rw [flts_closed _ (by assumption)]); exact vws_closed _ (by assumption)))))
            rw [← map_range_succ]; rfl
        · have h2 := ltF h2
          obtain rfl : x = nx := by omega
          conv => whnf
          exact ⟨1, none, (by refine ⟨rfl, rfl, ?_, ?_⟩ <;> ((repeat' (first | exact trivial | exact rfl | refine And.intro ?_ ?_)) <;> (try ((conv => whnf); first | refine vint ?_ | refine vboo ?_ | refine rint ?_ | refine rrow ?_ | skip)) <;> (try first | omega | (simp; done) | ((repeat rw [flts_closed _ (by assumption)]); exact vws_closed _ (by assumption))))), by omega, by omega⟩
      · conv => whnf
        refine ⟨1, rfl, by omega, by simp, ?_⟩
        conv => whnf
        refine aloopI tyOk mx (fun y : Nat => (⟨49, [(1, .ptr 0 0), (3, .c (.bool false)), (4, .ptr 2 0), (5, .own 1), (6, .c (.int .i64 ((1 : Nat)))), (14, .c (.int .i64 ((1 : Nat)))), (19, .c (.int .i64 (ny))), (20, .c (.int .i64 (y)))], [(0, .cells 53 [.c (.int .i64 (nx)), .c (.int .i64 (ny)), .c (.int .i64 (z)), .t (.rows m)]), (1, .ints 3 .i64 ((List.range nx).map (fun x => quz z (one0 (m.getD (x * ny + 0) []))) ++ (List.range y).map (fun y => quz z (one1 (m.getD (0 * ny + y) []))))), (2, .cells 158 [.c (.int .i64 (nx)), .c (.int .i64 (ny))])], 3⟩ : St)) (fun y => y ≤ ny) (fun y => ny - y) 0 (Nat.zero_le _) none (by refine ⟨rfl, rfl, ?_, ?_⟩ <;> ((repeat' (first | exact trivial | exact rfl | refine And.intro ?_ ?_)) <;> (try ((conv => whnf); first | refine vint ?_ | refine vboo ?_ | refine rint ?_ | refine rrow ?_ | skip)) <;> (try first | omega | (simp; done) | ((repeat rw [flts_closed _ (by assumption)]); exact vws_closed _ (by assumption))))) (fun y hy2 => ?_)
        refine ⟨fun h2 => ?_, fun h2 => ?_⟩
        · have h2 := ltT h2
          have hlt := ix_lt (show 0 < nx by omega) h2
          conv => whnf
          refine ADraw.plan tyOk mx (.q 0 (.q 1 (.q 2 (.q 3 (.q 5 (.q 6 (.last 4 (.q 7 (.last 8 (.last 9 (.q 10 (.done))))))))))) : Plan) (by kernel_rfl) ?_
          conv => whnf
          repeat' (first
            | (refine ACall.useR (ones1_spec nx ny y 0 z m (by omega) (by omega) h4) ?_; conv => whnf)
            | (refine ⟨(by omega : z ≠ 0), ?_⟩; conv => whnf)
            | (refine ⟨(by simp [room]; omega : _ ≤ room), ?_⟩; conv => whnf)
            | (refine And.intro ?_ ?_ <;> (conv => whnf)))
          all_goals
            rw [nat_wrap (by omega)]
            refine ⟨y + 1, none, ?_, by omega, by omega⟩
            (refine ⟨rfl, rfl, ?_, ?_⟩ <;> ((repeat' (first | exact trivial | exact rfl | refine And.intro ?_ ?_)) <;> (try ((conv => whnf); first | refine vint ?_ | refine vboo ?_ | refine rint ?_ | refine rrow ?_ | skip)) <;> (try first | omega | (simp; done) | ((repeat rw [flts_closed _ (by assumption)]); exact vws_closed _ (by assumption)))))
            rw [← map_range_succ, ← List.append_assoc]; rfl
        · have h2 := ltF h2
          obtain rfl : y = ny := by omega
          conv => whnf
          exact ⟨2, none, (by refine ⟨rfl, rfl, ?_, ?_⟩ <;> ((repeat' (first | exact trivial | exact rfl | refine And.intro ?_ ?_)) <;> (try ((conv => whnf); first | refine vint ?_ | refine vboo ?_ | refine rint ?_ | refine rrow ?_ | skip)) <;> (try first | omega | (simp; done) | ((repeat rw [flts_closed _ (by assumption)]); exact vws_closed _ (by assumption))))), by omega, by omega⟩
    · have h : ¬ p < 2 := by have := of_decide_eq_false h; omega
      obtain rfl : p = 2 := by omega
      have hl := pofL_len nx ny z m
      have hm1 : (pgM (pofL nx ny z m) nx ny 1).length = m.length := by rw [pgM, boxRows_len, g7]
      cases hq : alkB z 1 m (pgM (pofL nx ny z m) nx ny 1) with
      | true =>
        conv => whnf
        refine ADraw.plan tyOk mx (.q 0 (.q 1 (.q 2 (.q 3 (.q 4 (.q 5 (.q 6 (.q 7 (.q 8 (.last 9 (.q 10 (.last 11 (.q 12 (.done))))))))))))) : Plan) (by kernel_rfl) ?_
        conv => whnf
        repeat' (first
          | (refine ACall.useR (playBoxG_spec nx ny g2 g4 (pofL nx ny z m) hl 1) ?_; conv => whnf)
          | (refine ACall.useR (alike_spec z 1 m (pgM (pofL nx ny z m) nx ny 1) hm1 (by omega) h4 (boxRows_rows _ _ _)) ?_; rw [hq]; (conv => whnf))
          | (refine And.intro ?_ ?_ <;> (conv => whnf)))
        all_goals
          intro hh
          first
            | (exact absurd hh (by decide))
            | ((conv => whnf); exact .inr (.inr ⟨by rw [pfOk, h', ev, Int.toNat_natCast, Int.toNat_natCast, hq]; rfl, rfl, by rw [ev]; rfl⟩))
      | false =>
        conv => whnf
        refine ADraw.plan tyOk mx (.q 0 (.q 1 (.q 2 (.q 3 (.q 4 (.q 5 (.q 6 (.q 7 (.q 8 (.last 9 (.q 10 (.last 11 (.q 12 (.done))))))))))))) : Plan) (by kernel_rfl) ?_
        conv => whnf
        repeat' (first
          | (refine ACall.useR (playBoxG_spec nx ny g2 g4 (pofL nx ny z m) hl 1) ?_; conv => whnf)
          | (refine ACall.useR (alike_spec z 1 m (pgM (pofL nx ny z m) nx ny 1) hm1 (by omega) h4 (boxRows_rows _ _ _)) ?_; rw [hq]; (conv => whnf))
          | (refine And.intro ?_ ?_ <;> (conv => whnf)))
        all_goals
          intro hh
          first
            | (exact absurd hh (by decide))
            | ((conv => whnf); exact .inl ⟨by rw [pfOk, h', ev, Int.toNat_natCast, Int.toNat_natCast, hq]; rfl, rfl, rfl⟩)
theorem PlayOf_s (x y z : Int) (m : List (List Int)) (km : SzM m) : FSpec Try.prog 94 [.ag [.c (.int .i64 (x)), .c (.int .i64 (y)), .c (.int .i64 (z)), .t (.rows m)]] (ex (.tu [.t (.ints .i64 (if pfOk x y z m then poV x y z m else [])), .c (.bool (pfOk x y z m))]) []) := by
  refine view_list (e := 3) ?_
  refine fspec tyOk mx Try.func94 rfl (by kernel_rfl) rfl ?_
  conv => whnf
  refine ACall.use (l2Box_spec x y z m km) ?_
  conv => whnf
  refine ⟨fun h => ?_, fun h => ?_⟩
  · have h : goodB x y z m = false := by simpa using h
    conv => whnf
    exact .inr (.inl ⟨by rw [pfOk, h]; rfl, rfl, rfl⟩)
  · have h : goodB x y z m = true := by simpa using h
    have h' := h
    have h01 := pofL_01 h
    obtain ⟨nx, ny, rfl, rfl, g1, g2, g3, g4, g5, g6, g7, g8, g9⟩ := goodB_spec h'
    have h4 : ∀ r, r ∈ m → r.length = 4 := fun r hr => (g9 r hr).1
    have ev : poV nx ny z m = pofL nx ny z m := by rw [poV, Int.toNat_natCast, Int.toNat_natCast]
    rw [ev] at h01
    have hn : nx * ny ≤ 3 * 3 := Nat.mul_le_mul g2 g4
    have hl := pofL_len nx ny z m
    have hm1 : (pgM (pofL nx ny z m) nx ny 1).length = m.length := by rw [pgM, boxRows_len, g7]
    conv => whnf
    refine aloopI tyOk mx (fun x : Nat => (⟨55, [(1, .ptr 0 0), (3, .c (.bool false)), (4, .own 1), (5, .c (.int .i64 (x)))], [(0, .cells 53 [.c (.int .i64 (nx)), .c (.int .i64 (ny)), .c (.int .i64 (z)), .t (.rows m)]), (1, .ints 3 .i64 ((List.range x).map (fun x => quz z (one0 (m.getD (x * ny + 0) [])))))], 2⟩ : St)) (fun x => x ≤ nx) (fun x => nx - x) 0 (Nat.zero_le _) none (by refine ⟨rfl, rfl, ?_, ?_⟩ <;> ((repeat' (first | exact trivial | exact rfl | refine And.intro ?_ ?_)) <;> (try ((conv => whnf); first | refine vint ?_ | refine vboo ?_ | refine rint ?_ | refine rrow ?_ | skip)) <;> (try first | omega | (simp; done) | ((repeat rw [flts_closed _ (by assumption)]); exact vws_closed _ (by assumption))))) (fun x hx2 => ?_)
    refine ⟨fun h2 => ?_, fun h2 => ?_⟩
    · have h2 := ltT h2
      have hlt := ix_lt h2 (show 0 < ny by omega)
      have r4 := h4 _ (getD_mem (d := []) (show x * ny + 0 < m.length by omega))
      refine ADraw.plan tyOk mx (.q 0 (.q 1 (.q 2 (.q 5 (.q 6 (.last 3 (.last 4 (.q 7 (.last 8 (.last 9 (.q 10 (.done))))))))))) : Plan) (by kernel_rfl) ?_
      conv => whnf
      repeat' (first
        | (refine ACall.useR (l2Row_spec nx ny x 0 z m (by omega) (by omega)) ?_; conv => whnf)
        | (refine ACall.useR (l2One0_spec _ r4) ?_; conv => whnf)
        | (refine ⟨(by omega : z ≠ 0), ?_⟩; conv => whnf)
        | (refine ⟨(by simp [room]; omega : _ ≤ room), ?_⟩; conv => whnf)
        | (refine And.intro ?_ ?_ <;> (conv => whnf)))
      all_goals
        rw [nat_wrap (by omega)]
        refine ⟨x + 1, none, ?_, by omega, by omega⟩
        (refine ⟨rfl, rfl, ?_, ?_⟩ <;> ((repeat' (first | exact trivial | exact rfl | refine And.intro ?_ ?_)) <;> (try ((conv => whnf); first | refine vint ?_ | refine vboo ?_ | refine rint ?_ | refine rrow ?_ | skip)) <;> (try first | omega | (simp; done) | ((repeat rw [flts_closed _ (by assumption)]); exact vws_closed _ (by assumption)))))
        rw [← map_range_succ]; rfl
    · have h2 := ltF h2
      obtain rfl : nx = x := by omega
      conv => whnf
      refine aloopI tyOk mx (fun y : Nat => (⟨55, [(1, .ptr 0 0), (3, .c (.bool false)), (4, .own 1), (6, .c (.int .i64 (y)))], [(0, .cells 53 [.c (.int .i64 (nx)), .c (.int .i64 (ny)), .c (.int .i64 (z)), .t (.rows m)]), (1, .ints 3 .i64 ((List.range nx).map (fun x => quz z (one0 (m.getD (x * ny + 0) []))) ++ (List.range y).map (fun y => quz z (one1 (m.getD (0 * ny + y) [])))))], 2⟩ : St)) (fun y => y ≤ ny) (fun y => ny - y) 0 (Nat.zero_le _) none (by refine ⟨rfl, rfl, ?_, ?_⟩ <;> ((repeat' (first | exact trivial | exact rfl | refine And.intro ?_ ?_)) <;> (try ((conv => whnf); first | refine vint ?_ | refine vboo ?_ | refine rint ?_ | refine rrow ?_ | skip)) <;> (try first | omega | (simp; done) | ((repeat rw [flts_closed _ (by assumption)]); exact vws_closed _ (by assumption))))) (fun y hy2 => ?_)
      refine ⟨fun h2 => ?_, fun h2 => ?_⟩
      · have h2 := ltT h2
        have hlt := ix_lt (show 0 < nx by omega) h2
        have r4 := h4 _ (getD_mem (d := []) (show 0 * ny + y < m.length by omega))
        refine ADraw.plan tyOk mx (.q 0 (.q 1 (.q 2 (.q 5 (.q 6 (.last 3 (.last 4 (.q 7 (.last 8 (.last 9 (.q 10 (.done))))))))))) : Plan) (by kernel_rfl) ?_
        conv => whnf
        repeat' (first
          | (refine ACall.useR (l2Row_spec nx ny 0 y z m (by omega) (by omega)) ?_; conv => whnf)
          | (refine ACall.useR (l2One1_spec _ r4) ?_; conv => whnf)
          | (refine ⟨(by omega : z ≠ 0), ?_⟩; conv => whnf)
          | (refine ⟨(by simp [room]; omega : _ ≤ room), ?_⟩; conv => whnf)
          | (refine And.intro ?_ ?_ <;> (conv => whnf)))
        all_goals
          rw [nat_wrap (by omega)]
          refine ⟨y + 1, none, ?_, by omega, by omega⟩
          (refine ⟨rfl, rfl, ?_, ?_⟩ <;> ((repeat' (first | exact trivial | exact rfl | refine And.intro ?_ ?_)) <;> (try ((conv => whnf); first | refine vint ?_ | refine vboo ?_ | refine rint ?_ | refine rrow ?_ | skip)) <;> (try first | omega | (simp; done) | ((repeat rw [flts_closed _ (by assumption)]); exact vws_closed _ (by assumption)))))
          rw [← map_range_succ, ← List.append_assoc]; rfl
      · have h2 := ltF h2
        obtain rfl : ny = y := by omega
        have el : (List.range nx).map (fun x => quz z (one0 (m.getD (x * ny + 0) []))) ++ (List.range ny).map (fun y => quz z (one1 (m.getD (0 * ny + y) []))) = pofL nx ny z m := rfl
        rw [el]
        cases hq : alkB z 1 m (pgM (pofL nx ny z m) nx ny 1) with
        | true =>
          conv => whnf
          refine ADraw.plan tyOk mx (.q 0 (.q 1 (.q 2 (.q 3 (.q 4 (.q 5 (.last 6 (.last 7 (.q 8 (.done))))))))) : Plan) (by kernel_rfl) ?_
          conv => whnf
          repeat' (first
            | (refine ACall.useR (l2PlayBoxG_spec nx ny g2 g4 (pofL nx ny z m) hl h01 1) ?_; conv => whnf)
            | (refine ACall.useR (l2Alike_spec nx ny z nx ny 1 m (pgM (pofL nx ny z m) nx ny 1) hm1 (by omega) h4 (boxRows_rows _ _ _)) ?_; rw [hq]; (conv => whnf))
            | (refine And.intro ?_ ?_ <;> (conv => whnf)))
          all_goals
            intro hh
            first
              | (exact absurd hh (by decide))
              | ((conv => whnf); exact .inr (.inr ⟨by rw [pfOk, h', ev, Int.toNat_natCast, Int.toNat_natCast, hq]; rfl, rfl, by rw [ev]⟩))
        | false =>
          conv => whnf
          refine ADraw.plan tyOk mx (.q 0 (.q 1 (.q 2 (.q 3 (.q 4 (.q 5 (.last 6 (.last 7 (.q 8 (.done))))))))) : Plan) (by kernel_rfl) ?_
          conv => whnf
          repeat' (first
            | (refine ACall.useR (l2PlayBoxG_spec nx ny g2 g4 (pofL nx ny z m) hl h01 1) ?_; conv => whnf)
            | (refine ACall.useR (l2Alike_spec nx ny z nx ny 1 m (pgM (pofL nx ny z m) nx ny 1) hm1 (by omega) h4 (boxRows_rows _ _ _)) ?_; rw [hq]; (conv => whnf))
            | (refine And.intro ?_ ?_ <;> (conv => whnf)))
          all_goals
            intro hh
            first
              | (exact absurd hh (by decide))
              | ((conv => whnf); exact .inr (.inl ⟨by rw [pfOk, h', ev, Int.toNat_natCast, Int.toNat_natCast, hq]; rfl, rfl, rfl⟩))
end Go.Proofs.Ytkomndcehdneaaa
/- Calls that write a variable of their caller which also holds what is read-only. -/
namespace Go.Aw
open Go.RowKit

def tcells : List AVal → Bool
  | [] => true
  | .c _ :: r => tcells r
  | .t _ :: r => tcells r
  | _ => false

def tRow : ARow → Bool
  | .cells _ (x :: l) => tcells (x :: l)
  | _ => false

/-- plain values, what is read-only, and the place of the variable -/
def pargs : List AVal → List AVal → Bool
  | [], [] => true
  | .c _ :: l, .c _ :: r => pargs l r
  | .ptr _ _ :: l, .ptr 0 0 :: r => pargs l r
  | .t _ :: l, .t _ :: r => pargs l r
  | _, _ => false

mutual
/-- a result told of what is read-only: rows of the call's own (but the variable, key 0) are given away as read-only -/
def clv (hp : List (Nat × ARow)) : AVal → Option AVal
  | .c v => some (.c v)
  | .t t => some (.t t)
  | .own k => match k with
    | 0 => none
    | k + 1 => match look hp (k + 1) with
      | some r => match closeRow r with
        | some t => some (.t t)
        | none => none
      | none => none
  | .ag l => match clvs hp l with
    | some l' => some (.ag l')
    | none => none
  | .tu l => match clvs hp l with
    | some l' => some (.tu l')
    | none => none
  | _ => none
def clvs (hp : List (Nat × ARow)) : List AVal → Option (List AVal)
  | [] => some []
  | a :: r => match clv hp a with
    | none => none
    | some b => match clvs hp r with
      | none => none
      | some r' => some (b :: r')
end

mutual
def shut : AVal → Bool
  | .c _ => true
  | .t _ => true
  | .ag l => shuts l
  | .tu l => shuts l
  | _ => false
def shuts : List AVal → Bool
  | [] => true
  | a :: r => shut a && shuts r
end

def resx (l : List AVal) : AVal :=
  match l with
  | [x] => x
  | l => .tu l

section
variable {P : Program} {Γ : Tys} {w0 : Base} {w w' : World} {ob : Nat → Prop} {st : St} {a : Act} {η : Env}

mutual
theorem shut_rep {bad bad' : Nat → Prop} {hp hp' : List (Nat × ARow)} {nx nx' : Nat} {η η' : Env} (hk : Keeps w bad w' bad') : ∀ (x : AVal) {v : Value}, shut x = true → VRep w bad hp nx η x v → VRep w' bad' hp' nx' η' x v
  | .c _, _, _, hv => hv
  | .t _, _, _, hv => TRep.keeps hk hv
  | .ag l, _, h, ⟨cs, e, hv⟩ => ⟨cs, e, shuts_rep hk l (by simpa [shut] using h) hv⟩
  | .tu l, _, h, ⟨cs, e, hv⟩ => ⟨cs, e, shuts_rep hk l (by simpa [shut] using h) hv⟩
  | .un, _, h, _ => by simp [shut] at h
  | .own _, _, h, _ => by simp [shut] at h
  | .sub _ _, _, h, _ => by simp [shut] at h
  | .ptr _ _, _, h, _ => by simp [shut] at h
  | .subp _ _ _, _, h, _ => by simp [shut] at h
  | .adr _ _, _, h, _ => by simp [shut] at h
  | .rp _ _, _, h, _ => by simp [shut] at h
  | .clo _ _, _, h, _ => by simp [shut] at h
  | .knot _ _ _, _, h, _ => by simp [shut] at h
  | .nul, _, h, _ => by simp [shut] at h
theorem shuts_rep {bad bad' : Nat → Prop} {hp hp' : List (Nat × ARow)} {nx nx' : Nat} {η η' : Env} (hk : Keeps w bad w' bad') : ∀ (l : List AVal) {vs : List Value}, shuts l = true → VReps w bad hp nx η l vs → VReps w' bad' hp' nx' η' l vs
  | [], [], _, _ => trivial
  | x :: l, v :: vs, h, hv => by
    simp only [shuts, Bool.and_eq_true] at h
    exact ⟨shut_rep hk x h.1 hv.1, shuts_rep hk l h.2 hv.2⟩
  | [], _ :: _, _, h => h.elim
  | _ :: _, [], _, h => h.elim
end

mutual
theorem clv_shut {hp : List (Nat × ARow)} : ∀ (x : AVal) {y : AVal}, clv hp x = some y → shut y = true ∧ vw hp [(0, .row 0)] 1 x y
  | .c v, y, h => by simp only [clv, Option.some.injEq] at h; subst h; exact ⟨rfl, rfl⟩
  | .t t, y, h => by simp only [clv, Option.some.injEq] at h; subst h; exact ⟨rfl, rfl⟩
  | .own 0, y, h => by simp [clv] at h
  | .own (k + 1), y, h => by
    simp only [clv] at h
    split at h
    · rename_i r hr
      split at h
      · rename_i t ht
        simp only [Option.some.injEq] at h
        subst h
        refine ⟨rfl, ?_⟩
        show keyIn (k + 1) [(0, Org.row 0)] = false ∧ (match look hp (k + 1) with | some r => closeRow r = some t | none => False)
        rw [hr]
        exact ⟨rfl, ht⟩
      · cases h
    · cases h
  | .ag l, y, h => by
    simp only [clv] at h
    split at h
    · rename_i l' hl
      simp only [Option.some.injEq] at h
      subst h
      obtain ⟨h1, h2⟩ := clvs_shut l hl
      exact ⟨by simpa [shut] using h1, h2⟩
    · cases h
  | .tu l, y, h => by
    simp only [clv] at h
    split at h
    · rename_i l' hl
      simp only [Option.some.injEq] at h
      subst h
      obtain ⟨h1, h2⟩ := clvs_shut l hl
      exact ⟨by simpa [shut] using h1, h2⟩
    · cases h
  | .un, _, h => by simp [clv] at h
  | .sub _ _, _, h => by simp [clv] at h
  | .ptr _ _, _, h => by simp [clv] at h
  | .subp _ _ _, _, h => by simp [clv] at h
  | .adr _ _, _, h => by simp [clv] at h
  | .rp _ _, _, h => by simp [clv] at h
  | .clo _ _, _, h => by simp [clv] at h
  | .knot _ _ _, _, h => by simp [clv] at h
  | .nul, _, h => by simp [clv] at h
theorem clvs_shut {hp : List (Nat × ARow)} : ∀ (l : List AVal) {l' : List AVal}, clvs hp l = some l' → shuts l' = true ∧ vws hp [(0, .row 0)] 1 l l'
  | [], l', h => by simp only [clvs, Option.some.injEq] at h; subst h; exact ⟨rfl, trivial⟩
  | x :: l, l', h => by
    simp only [clvs] at h
    split at h
    · cases h
    · rename_i y hy
      split at h
      · cases h
      · rename_i r' hr
        simp only [Option.some.injEq] at h
        subst h
        obtain ⟨a1, a2⟩ := clv_shut x hy
        obtain ⟨b1, b2⟩ := clvs_shut l hr
        exact ⟨by simp [shuts, a1, b1], a2, b2⟩
end

theorem tcells_vws {hp : List (Nat × ARow)} {R : List (Nat × Org)} {nx : Nat} : ∀ {l : List AVal}, tcells l = true → vws hp R nx l l
  | [], _ => trivial
  | .c _ :: l, h => ⟨rfl, tcells_vws (l := l) (by simpa [tcells] using h)⟩
  | .t _ :: l, h => ⟨rfl, tcells_vws (l := l) (by simpa [tcells] using h)⟩
  | .un :: _, h => by simp [tcells] at h
  | .ag _ :: _, h => by simp [tcells] at h
  | .tu _ :: _, h => by simp [tcells] at h
  | .own _ :: _, h => by simp [tcells] at h
  | .sub _ _ :: _, h => by simp [tcells] at h
  | .ptr _ _ :: _, h => by simp [tcells] at h
  | .subp _ _ _ :: _, h => by simp [tcells] at h
  | .adr _ _ :: _, h => by simp [tcells] at h
  | .rp _ _ :: _, h => by simp [tcells] at h
  | .clo _ _ :: _, h => by simp [tcells] at h
  | .knot _ _ _ :: _, h => by simp [tcells] at h
  | .nul :: _, h => by simp [tcells] at h

theorem resx_rep {bad : Nat → Prop} {hp : List (Nat × ARow)} {nx : Nat} {η : Env} : ∀ {l : List AVal} {us : List Value}, VReps w bad hp nx η l us → VRep w bad hp nx η (resx l) (if hh : us.toArray.size = 1 then us.toArray[0] else .tuple us.toArray)
  | [x], [u], h => by rw [dif_pos (by rfl)]; exact h.1
  | [], [], h => by rw [dif_neg (by simp)]; exact ⟨_, rfl, h⟩
  | x :: y :: l, u :: v :: us, h => by rw [dif_neg (by simp)]; exact ⟨_, rfl, h⟩
  | [_], [], h => h.elim
  | [_], _ :: _ :: _, h => h.2.elim
  | [], _ :: _, h => h.elim
  | _ :: _ :: _, [], h => h.elim
  | _ :: _ :: _, [_], h => h.2.elim

theorem tcells_rep {bad bad' : Nat → Prop} {hp hp' : List (Nat × ARow)} {nx nx' : Nat} {η η' : Env} (hk : Keeps w bad w bad') : ∀ {l : List AVal} {vs : List Value}, tcells l = true → VReps w bad hp nx η l vs → VReps w bad' hp' nx' η' l vs
  | [], [], _, _ => trivial
  | .c _ :: l, _ :: vs, h, hv => ⟨hv.1, tcells_rep hk (l := l) (by simpa [tcells] using h) hv.2⟩
  | .t _ :: l, _ :: vs, h, hv => ⟨TRep.keeps hk hv.1, tcells_rep hk (l := l) (by simpa [tcells] using h) hv.2⟩
  | [], _ :: _, _, h => h.elim
  | .c _ :: _, [], _, h => h.elim
  | .t _ :: _, [], _, h => h.elim
  | .un :: _, _, h, _ => by simp [tcells] at h
  | .ag _ :: _, _, h, _ => by simp [tcells] at h
  | .tu _ :: _, _, h, _ => by simp [tcells] at h
  | .own _ :: _, _, h, _ => by simp [tcells] at h
  | .sub _ _ :: _, _, h, _ => by simp [tcells] at h
  | .ptr _ _ :: _, _, h, _ => by simp [tcells] at h
  | .subp _ _ _ :: _, _, h, _ => by simp [tcells] at h
  | .adr _ _ :: _, _, h, _ => by simp [tcells] at h
  | .rp _ _ :: _, _, h, _ => by simp [tcells] at h
  | .clo _ _ :: _, _, h, _ => by simp [tcells] at h
  | .knot _ _ _ :: _, _, h, _ => by simp [tcells] at h
  | .nul :: _, _, h, _ => by simp [tcells] at h

theorem pargs_rep {badS bad bad' : Nat → Prop} {hpS hp : List (Nat × ARow)} {nxS nx nx' : Nat} {ηS η1 : Env} {R : List (Nat × Org)} (hk : Keeps w badS w bad') : ∀ (l l0 : List AVal) (vs : List Value), pargs l l0 = true → vws hpS R nx' l l0 →
    VReps w badS hpS nxS ηS l vs → VReps w bad hp nx η1 l0 vs → VReps w bad' hp nx η1 l0 vs
  | l, l0, vs, h, hv, hs, h0 => by
    unfold pargs at h
    split at h
    · cases vs with
      | nil => trivial
      | cons => exact h0.elim
    · cases vs with
      | nil => exact h0.elim
      | cons v vs => exact ⟨h0.1, pargs_rep hk _ _ vs h hv.2 hs.2 h0.2⟩
    · cases vs with
      | nil => exact h0.elim
      | cons v vs => exact ⟨h0.1, pargs_rep hk _ _ vs h hv.2 hs.2 h0.2⟩
    · rename_i t l t' r
      cases vs with
      | nil => exact h0.elim
      | cons v vs =>
        have e : t = t' := hv.1
        subst e
        exact ⟨TRep.keeps hk hs.1, pargs_rep hk _ _ vs h hv.2 hs.2 h0.2⟩
    · cases h
termination_by l => l.length

/-- A FUNCTION THAT WRITES A VARIABLE OF ITS CALLER (key 0), in which read-only slices may stand: it hands back a plain value -/
def TSpec (P : Program) (f : FuncId) (r0 : ARow) (args : List AVal) (post : AVal → ARow → Prop) : Prop := FOk P f ∧
  ∀ (w : World) (B : Nat) (ob : Nat → Prop) (η : Env) (vs : List Value), B ≤ w.heap.size → (∀ b, ob b → b < w.heap.size) → (∀ b, b ∈ bsOf η 0 r0 → ¬ ob b) →
    HRep w B ob [(0, r0)] 1 η → VReps w (badOf ob [(0, r0)] η) [(0, r0)] 1 η args vs →
    Calls P f vs.toArray w fun e w' => ∃ v x r' η', e = .returned v ∧ VRep w' (badOf ob [(0, r')] η') [] 0 η0 x v ∧ shut x = true ∧ post x r' ∧ Below B w w' ∧
      (∀ b, b < w.heap.size → b ∉ bsOf η 0 r0 → w'.heap[b]? = w.heap[b]?) ∧ tRow r' = true ∧ RowRep w' B (badOf ob [(0, r')] η') [(0, r')] 1 η' 0 r' ∧ (bsOf η' 0 r').Nodup ∧
      (∀ b, b ∈ bsOf η' 0 r' → b ∈ bsOf η 0 r0 ∨ w.heap.size ≤ b) ∧ r'.kind = r0.kind ∧ η'.val 0 = η.val 0 ∧ (η'.cel 0).length = (η.cel 0).length

def tfin (sz : Nat) (r0 : ARow) (post : AVal → ARow → Prop) (st : St) (l : List AVal) : Prop :=
  match clv st.hp (resx l) with
  | some x => match look st.sl sz with
    | some g => match look st.hp 0 with
      | some r' => match Nat.beq r'.kind r0.kind && isGhost r' g && tRow r' && sameLen r0 r' && Nat.beq st.sz sz with
        | true => post x r'
        | false => False
      | none => False
    | none => False
  | none => False

def tend (Γ : Tys) (rs : List ResultVar) (sz : Nat) (r0 : ARow) (post : AVal → ARow → Prop) : Exit → St → Prop
  | .ret, st => ares Γ st rs (tfin sz r0 post st)
  | .normal, st => ares Γ st rs (tfin sz r0 post st)
  | _, _ => False

theorem tspec (hΓ : TysOk P Γ) (hm : P.follows .mixedOrders = true) {f : FuncId} {fn : Func} {c : Code} {r0 : ARow} {args : List AVal} {post : AVal → ARow → Prop} (hf : P.funcs[f]? = some fn) (hb : fn.body = some c)
    (hname : (fn.name == "runtime.NumGoroutine") = false) (hn : Nat.ble args.length fn.ntmps = true) (hg : tRow r0 = true)
    (h : acode P Γ c ⟨fn.ntmps, (fn.ntmps, ghostOf r0) :: initSl 0 args, [(0, r0)], 1⟩ (tend Γ fn.results.toList fn.ntmps r0 post)) : TSpec P f r0 args post := by
  refine ⟨⟨fn, hf, hname, by rw [hb]; rfl⟩, fun w B ob η vs hB hobl hfree hh hvs => ?_⟩
  refine calls_of_wp hf hb ?_
  have hle := Nat.le_of_ble_eq_true hn
  have hlen := VReps.length hvs
  have hr0 : look [(0, r0)] 0 = some r0 := rfl
  have hrow0 := hh.row 0 r0 hr0
  have hone : ∀ k r, look [(0, r0)] k = some r → k = 0 ∧ r = r0 := fun k r hk => by
    rw [look_cons] at hk
    split at hk
    · rename_i h0; exact ⟨h0.symm, (Option.some.inj hk).symm⟩
    · cases hk
  let γ : Nat → Value := fun i => if i = fn.ntmps then η.val 0 else undef
  let W0 : Base := ⟨w, B, fun b => b ∈ bsOf η 0 r0, γ⟩
  have hs : SRep W0 ob ⟨fn.ntmps, (fn.ntmps, ghostOf r0) :: initSl 0 args, [(0, r0)], 1⟩ { tmps := vs.toArray ++ Array.replicate (fn.ntmps - vs.toArray.size) undef, defers := [] } w η := by
    have hsz : (vs.toArray ++ Array.replicate (fn.ntmps - vs.toArray.size) undef).size = fn.ntmps := by simp; omega
    refine ⟨rfl, hsz, Below.refl _ _, ⟨hB, hobl, hfree⟩, fun _ _ _ => rfl, fun b ⟨k, r, hk, hb⟩ => ?_, hh, fun i x hi => ?_⟩
    · obtain ⟨rfl, rfl⟩ := hone k r hk; exact .inl hb
    · simp only at hi
      rw [look_cons] at hi
      split at hi
      · rename_i hni
        subst hni
        have hx := Option.some.inj hi
        subst hx
        have hget : (vs.toArray ++ Array.replicate (fn.ntmps - vs.toArray.size) undef).getD fn.ntmps (W0.γ fn.ntmps) = η.val 0 := by
          have : W0.γ fn.ntmps = η.val 0 := if_pos rfl
          rw [Array.getD_eq_getD_getElem?, Array.getElem?_eq_none (by rw [hsz]; exact Nat.le_refl _), this]; rfl
        rw [hget]
        match r0, hg, hrow0, hone with
        | .ints .., hg, _, _ => simp [tRow] at hg
        | .rows .., hg, _, _ => simp [tRow] at hg
        | .recs .., hg, _, _ => simp [tRow] at hg
        | .cells _ [], hg, _, _ => simp [tRow] at hg
        | .cells _ (y :: l), _, hrow0, _ =>
          obtain ⟨b, h1, _, _, h4⟩ := hrow0
          have := VReps.length h4
          exact ⟨Nat.one_pos, fun r _ => ⟨by rw [← this]; simp, b, by rw [h1]; rfl, h1⟩⟩
      · rename_i hni
        obtain ⟨v, _, h2, h3⟩ := init_look' hvs i x hi
        simp only [Nat.sub_zero] at h2
        have hlt : i < vs.length := (List.getElem?_eq_some_iff.1 h2).1
        have : (vs.toArray ++ Array.replicate (fn.ntmps - vs.toArray.size) undef).getD i (W0.γ i) = v := by
          rw [Array.getD_eq_getD_getElem?, Array.getElem?_append_left (by simpa using hlt)]
          simp [h2]
        rw [this]
        exact h3
  refine wp_mono (acode_sound (w0 := W0) hΓ hm c _ _ _ w h ⟨η, hs⟩) (fun e a' w' hl => ?_)
  obtain ⟨st', hk, η', hs'⟩ := hl
  have fin : ares Γ st' fn.results.toList (tfin fn.ntmps r0 post st') → ∃ v, (results fn a'.tmps).run P w' = .ok v w' ∧ ∃ v' x r' η', Ending.returned v = .returned v' ∧ VRep w' (badOf ob [(0, r')] η') [] 0 η0 x v' ∧ shut x = true ∧ post x r' ∧ Below B w w' ∧
      (∀ b, b < w.heap.size → b ∉ bsOf η 0 r0 → w'.heap[b]? = w.heap[b]?) ∧ tRow r' = true ∧ RowRep w' B (badOf ob [(0, r')] η') [(0, r')] 1 η' 0 r' ∧ (bsOf η' 0 r').Nodup ∧
      (∀ b, b ∈ bsOf η' 0 r' → b ∈ bsOf η 0 r0 ∨ w.heap.size ≤ b) ∧ r'.kind = r0.kind ∧ η'.val 0 = η.val 0 ∧ (η'.cel 0).length = (η.cel 0).length := fun hk => by
    obtain ⟨xs, us, h1, h2, h3⟩ := ares_sound hΓ hs' hk
    have hres := results_run h3
    unfold tfin at h1
    split at h1
    case h_2 => exact h1.elim
    case h_1 x hx =>
      obtain ⟨hsh, hvw⟩ := clv_shut (resx xs) hx
      have hres0 := resx_rep h2
      split at h1
      case h_2 => exact h1.elim
      case h_1 g hgl =>
        split at h1
        case h_2 => exact h1.elim
        case h_1 r' hr' =>
          split at h1
          case h_2 => exact h1.elim
          case h_1 hc =>
            simp only [Bool.and_eq_true] at hc
            obtain ⟨⟨⟨⟨c1, c2⟩, c3⟩, c4⟩, c5⟩ := hc
            have hsz' := Nat.eq_of_beq_eq_true c5
            have hkind := Nat.eq_of_beq_eq_true c1
            · have hrow' := hs'.heap.row 0 r' hr'
              have hkeep : Keeps w' (badOf ob st'.hp η') w' (badOf ob [(0, r')] η') := fun b o x hb hc => by
                refine ⟨?_, hc⟩
                rintro (h1 | ⟨j, r1, hj, hm⟩)
                · exact hb (.inl h1)
                · rw [look_cons] at hj
                  split at hj
                  · rename_i h0
                    subst h0
                    obtain rfl := Option.some.inj hj
                    exact hb (.inr ⟨0, _, hr', hm⟩)
                  · cases hj
              have hfrm : ∀ b, b < w.heap.size → b ∉ bsOf η 0 r0 → w'.heap[b]? = w.heap[b]? := fun b hb hnb => hs'.frame b hb hnb
              have hsrc : ∀ b, b ∈ bsOf η' 0 r' → b ∈ bsOf η 0 r0 ∨ w.heap.size ≤ b := fun b hb => hs'.src b ⟨0, r', hr', hb⟩
              have hnod := hs'.heap.nodup 0 r' hr'
              match r0, r', g, hg, c2, c3, c4, hrow0, hrow', hr', hgl, hkeep, hkind, h1, hfrm, hsrc, hnod with
              | .cells _ (y0 :: l0), .cells e (y :: l), .ptr 0 0, _, _, c3, c4, hrow0, hrow', hr', hgl, hkeep, hkind, h1, hfrm, hsrc, hnod =>
                obtain ⟨b0, p1, p2, p3, p4⟩ := hrow0
                obtain ⟨b1, q1, q2, q3, q4⟩ := hrow'
                have hslot := hs'.slot _ _ hgl
                have hget : a'.tmps.getD fn.ntmps (W0.γ fn.ntmps) = η.val 0 := by
                  have e1 : W0.γ fn.ntmps = η.val 0 := if_pos rfl
                  rw [Array.getD_eq_getD_getElem?, Array.getElem?_eq_none (by rw [hs'.size, hsz']; exact Nat.le_refl _), e1]; rfl
                rw [hget] at hslot
                have hval : η'.val 0 = η.val 0 := by
                  obtain ⟨_, b', e2, e3⟩ := hslot.2 _ hr'
                  rw [q1, ptr_blk] at e2
                  simp only [List.cons.injEq, and_true] at e2
                  rw [q1, e3, e2]
                have hlen' : (η'.cel 0).length = (η.cel 0).length := by
                  have l0' := VReps.length p4
                  have l1' := VReps.length q4
                  have := Nat.eq_of_beq_eq_true c4
                  omega
                have hrv : rowsVw st'.hp [(0, Org.row 0)] 1 [(0, .cells e (y :: l))] := ⟨rfl, by
                  show rowVw st'.hp [(0, Org.row 0)] 1 (.row 0) _
                  simp only [rowVw, hr']
                  exact ⟨trivial, tcells_vws c3⟩, trivial⟩
                have hvr := vw_sound hs'.heap (fun b hb => hs'.free hb) hrv (resx xs) x hvw hres0
                have hkk : Keeps w' (badOf ob [(0, .cells e (y :: l))] (ηV st'.hp η' [(0, Org.row 0)])) w' (badOf ob [(0, .cells e (y :: l))] η') := fun b o z hb hc => by
                  refine ⟨?_, hc⟩
                  rintro (k1 | ⟨j, r1, hj, hm⟩)
                  · exact hb (.inl k1)
                  · rw [look_cons] at hj
                    split at hj
                    · rename_i h0
                      subst h0
                      obtain rfl := Option.some.inj hj
                      exact hb (.inr ⟨0, _, rfl, hm⟩)
                    · cases hj
                have hvr' := shut_rep (hp' := []) (nx' := 0) (η' := η0) hkk x hsh hvr
                refine ⟨_, hres, _, x, .cells e (y :: l), η', rfl, hvr', hsh, h1, hs'.below, hfrm, c3, ⟨b1, q1, q2, q3, tcells_rep hkeep c3 q4⟩, hnod, hsrc, hkind, hval, hlen'⟩
  cases e with
  | ret => exact ⟨hs'.defers, fin hk⟩
  | normal => exact ⟨hs'.defers, fin hk⟩
  | _ => exact hk.elim

/-- a variable's cells have become others -/
theorem SRep.mutT (h : SRep w0 ob st a w η) {k : Nat} {r r' : ARow} {cs' : List Value} (hr : look st.hp k = some r) (hkind : r'.kind = r.kind) (hlen : (η.cel k).length ≤ cs'.length)
    (hw : ∀ b, b < w.heap.size → b ∉ bsOf η k r → w'.heap[b]? = w.heap[b]?) (hB : Below w0.B w w')
    (hnd : (bsOf (η.upd k (η.val k) cs') k r').Nodup) (hfr : ∀ b, b ∈ bsOf (η.upd k (η.val k) cs') k r' → b ∈ bsOf η k r ∨ w.heap.size ≤ b)
    (hrow : RowRep w' w0.B (badOf ob ((st.killSub k).upd k r').hp (η.upd k (η.val k) cs')) ((st.killSub k).upd k r').hp st.nx (η.upd k (η.val k) cs') k r') :
    SRep w0 ob ((st.killSub k).upd k r') a w' (η.upd k (η.val k) cs') := by
  have hoth : ∀ j r1, j ≠ k → look ((st.killSub k).upd k r').hp j = some r1 → ∃ r, look st.hp j = some r ∧ r1 = r.flt (fun _ => true) (ne k) := fun j r1 hj h1 => by
    simp only [St.upd, St.killSub, look_upd, if_neg (Ne.symm hj), look_fltH] at h1
    obtain ⟨r, h2, rfl⟩ := Option.map_eq_some_iff.1 h1
    exact ⟨r, h2, rfl⟩
  have hk' : look ((st.killSub k).upd k r').hp k = some r' := by simp only [St.upd, look_upd, if_true]
  have hok : ∀ j, j < st.nx → OwnOk st.hp η ((st.killSub k).upd k r').hp (η.upd k (η.val k) cs') j := fun j _ => by
    by_cases hjk : j = k
    · subst hjk
      exact ⟨fun r1 h1 => by rw [hk'] at h1; obtain rfl := Option.some.inj h1; exact ⟨r, hr, hkind.symm, upd_val _ _ _ _, by rw [upd_cel]; exact hlen⟩⟩
    · exact OwnOk.of (fun r1 h1 => by obtain ⟨r, h2, rfl⟩ := hoth j r1 hjk h1; exact ⟨r, h2, (kind_flt _ _ r).symm⟩) (upd_ne _ _ _ _ j hjk).1 (upd_ne _ _ _ _ j hjk).2
  have hsk : ∀ j, j < st.nx → ne k j = true → SubOk st.hp η ((st.killSub k).upd k r').hp (η.upd k (η.val k) cs') j := fun j _ hj => by
    have hjk := (ne_spec k j).1 hj
    exact SubOk.of (fun r1 h1 => by obtain ⟨r, h2, rfl⟩ := hoth j r1 hjk h1; exact ⟨r, h2, (kind_flt _ _ r).symm⟩) (upd_ne _ _ _ _ j hjk).2
  obtain ⟨hh, hkp⟩ := HRep.step (k := k) (hp' := ((st.killSub k).upd k r').hp) (nx' := st.nx) (η' := η.upd k (η.val k) cs') (w' := w') h.heap (fun _ => true) (ne k) r' (h.heap.lt k r hr) (Nat.le_refl _)
    (fun j r1 hj h1 => hoth j r1 hj h1) hk' (fun j hj => upd_ne _ _ _ _ j hj)
    (fun b hb hn => hw b hb (hn r hr)) (fun j hj _ => hok j hj) hsk hnd
    (fun b hb => (hfr b hb).imp (fun h1 => ⟨k, r, hr, h1, .inl rfl⟩) id) (fun _ => hrow)
  exact h.heapStep (fun _ => true) (ne k) hB hh hkp (Nat.le_refl _) (fun j hj _ => hok j hj) hsk

theorem tmut_core {f : FuncId} {args args0 : List AVal} {r0 : ARow} {K : AVal → St → Prop} {post : AVal → ARow → Prop} (k : Nat) (hs : TSpec P f r0 args0 post)
    (hk : ∀ x r', post x r' → K x ((st.killSub k).upd k r')) (hlk : look st.hp k = some r0) (hv : vws st.hp [(0, .row k)] 1 args args0) (hr : rowVw st.hp [(0, .row k)] 1 (.row k) r0)
    (hp : pargs args args0 = true) (ht : tRow r0 = true) (h : SRep w0 ob st a w η) (vs : List Value) (hvs : VReps w (fun b => ob b ∨ ownB st.hp η b) st.hp st.nx η args vs) :
    Calls P f vs.toArray w fun e w' => (∃ v x st' η', e = .returned v ∧ K x st' ∧ st'.sz = st.sz ∧ SRep w0 ob st' a w' η' ∧ VRep w' (fun b => ob b ∨ ownB st'.hp η' b) st'.hp st'.nx η' x v) ∧
      w.heap.size ≤ w'.heap.size ∧ ∀ b, b < w.heap.size → b ∉ bsOf η k r0 → w'.heap[b]? = w.heap[b]? := by
  have hrv : rowsVw st.hp [(0, .row k)] 1 [(0, r0)] := ⟨rfl, hr, trivial⟩
  have hfree : ∀ b, ownB st.hp η b → ¬ ob b := fun b hb => h.free hb
  have ha0 := vws_sound (R := [(0, .row k)]) (nx' := 1) h.heap hfree hrv args args0 hv hvs
  let η1 : Env := ηV st.hp η [(0, Org.row k)]
  let ob1 : Nat → Prop := fun b => ob b ∨ ∃ j r, j ≠ k ∧ look st.hp j = some r ∧ b ∈ bsOf η j r
  have hv0 : η1.val 0 = η.val k := rfl
  have hc0 : η1.cel 0 = η.cel k := rfl
  have hbs : ∀ r, bsOf η1 0 r = bsOf η k r := fun r => by simp only [bsOf, hv0, hc0]
  have hone : ∀ j r, look [(0, r0)] j = some r → j = 0 ∧ r = r0 := fun j r hk => by
    rw [look_cons] at hk
    split at hk
    · rename_i h0; exact ⟨h0.symm, (Option.some.inj hk).symm⟩
    · cases hk
  have hdis : ∀ b, b ∈ bsOf η1 0 r0 → ¬ ob1 b := fun b hb => by
    rw [hbs] at hb
    rintro (h1 | ⟨j, r, hj, hl, hm⟩)
    · exact hfree b ⟨k, r0, hlk, hb⟩ h1
    · exact h.heap.apart j r k r0 hl hlk hj b hm hb
  have hkeep : Keeps w (badOf ob st.hp η) w (badOf ob1 [(0, r0)] η1) := fun b o x hb hc => by
    refine ⟨?_, hc⟩
    rintro ((h1 | ⟨j, r, _, hl, hm⟩) | ⟨j, r, hj, hm⟩)
    · exact hb (.inl h1)
    · exact hb (.inr ⟨j, r, hl, hm⟩)
    · obtain ⟨rfl, rfl⟩ := hone j r hj
      rw [hbs] at hm
      exact hb (.inr ⟨k, _, hlk, hm⟩)
  have hh1 : HRep w w0.B ob1 [(0, r0)] 1 η1 := by
    refine ⟨fun j r hj => ?_, fun j r hj => ?_, fun j r j' r' hj hj' hne => ?_, fun j r hj => ?_⟩
    · obtain ⟨rfl, rfl⟩ := hone j r hj
      have hrow := h.heap.row k _ hlk
      match r, ht, hrow with
      | .cells e (y :: l), ht, ⟨b, p1, p2, p3, p4⟩ => exact ⟨b, by rw [hv0]; exact p1, p2, by rw [hc0]; exact p3, by rw [hc0]; exact tcells_rep hkeep ht p4⟩
      | .cells _ [], ht, _ => simp [tRow] at ht
      | .ints .., ht, _ => simp [tRow] at ht
      | .rows .., ht, _ => simp [tRow] at ht
      | .recs .., ht, _ => simp [tRow] at ht
    · obtain ⟨rfl, rfl⟩ := hone j r hj
      rw [hbs]; exact h.heap.nodup k _ hlk
    · obtain ⟨rfl, rfl⟩ := hone j r hj
      obtain ⟨rfl, rfl⟩ := hone j' r' hj'
      exact absurd rfl hne
    · obtain ⟨rfl, rfl⟩ := hone j r hj
      exact Nat.one_pos
  refine (hs.2 w w0.B ob1 η1 vs (wB h) (fun b hb => ?_) hdis hh1 (pargs_rep hkeep args args0 vs hp hv hvs ha0)).mono ?_
  · rcases hb with h1 | ⟨j, r, _, hl, hm⟩
    · exact h.badlt (.inl h1)
    · exact h.badlt (.inr ⟨j, r, hl, hm⟩)
  · rintro e w' ⟨v, x, r', η', rfl, hvx, hsh, hpo, hbel, hfrm, ht', hrow, hnd, hsrc, hkind, hval, hlen⟩
    have hu : (η.upd k (η.val k) (η'.cel 0)).val k = η'.val 0 := by rw [upd_val, hval, hv0]
    have hbs' : bsOf (η.upd k (η.val k) (η'.cel 0)) k r' = bsOf η' 0 r' := by simp only [bsOf, hu, upd_cel]
    have hkeep' : Keeps w' (badOf ob1 [(0, r')] η') w' (badOf ob ((st.killSub k).upd k r').hp (η.upd k (η.val k) (η'.cel 0))) := fun b o x hb hc => by
      refine ⟨?_, hc⟩
      rintro (h1 | ⟨j, r1, hj, hm⟩)
      · exact hb (.inl (.inl h1))
      · by_cases hjk : j = k
        · subst hjk
          simp only [St.upd, look_upd, if_true] at hj
          obtain rfl := Option.some.inj hj
          rw [hbs'] at hm
          exact hb (.inr ⟨0, _, rfl, hm⟩)
        · simp only [St.upd, St.killSub, look_upd, if_neg (Ne.symm hjk), look_fltH] at hj
          obtain ⟨r2, h2, rfl⟩ := Option.map_eq_some_iff.1 hj
          rw [bsOf_flt, bsOf_congr (upd_ne _ _ _ _ j hjk).1 (upd_ne _ _ _ _ j hjk).2 rfl] at hm
          exact hb (.inl (.inr ⟨j, r2, hjk, h2, hm⟩))
    have hs' := SRep.mutT (w' := w') h (cs' := η'.cel 0) hlk hkind (by rw [hlen, hc0]; exact Nat.le_refl _) (fun b hb hn => hfrm b hb (by rw [hbs]; exact hn)) hbel
      (by rw [hbs']; exact hnd) (fun b hb => by rw [hbs'] at hb; rw [← hbs]; exact hsrc b hb) (by
        match r', ht', hrow with
        | .cells e (y :: l), ht', ⟨b, p1, p2, p3, p4⟩ => exact ⟨b, by rw [hu]; exact p1, p2, by rw [upd_cel]; exact p3, by rw [upd_cel]; exact tcells_rep hkeep' ht' p4⟩
        | .cells _ [], ht', _ => simp [tRow] at ht'
        | .ints .., ht', _ => simp [tRow] at ht'
        | .rows .., ht', _ => simp [tRow] at ht'
        | .recs .., ht', _ => simp [tRow] at ht')
    exact ⟨⟨v, x, _, _, rfl, hk x r' hpo, rfl, hs', shut_rep hkeep' x hsh hvx⟩, hbel.size, fun b hb hn => hfrm b hb (by rw [hbs]; exact hn)⟩

theorem ACallS.tmut {f : FuncId} {args args0 : List AVal} {r0 : ARow} {K : AVal → St → Prop} {post : AVal → ARow → Prop} (k : Nat) (hs : TSpec P f r0 args0 post)
    (hk : ∀ x r', post x r' → K x ((st.killSub k).upd k r')) (hlk : look st.hp k = some r0) (hv : vws st.hp [(0, .row k)] 1 args args0) (hr : rowVw st.hp [(0, .row k)] 1 (.row k) r0)
    (hp : pargs args args0 = true := by rfl) (ht : tRow r0 = true := by rfl) : ACallS P st f args K :=
  ⟨hs.1, fun _ _ _ _ _ h vs hvs => (tmut_core k hs hk hlk hv hr hp ht h vs hvs).mono fun _ _ h => h.1⟩

theorem ACallT.tmut {f : FuncId} {args args0 : List AVal} {r0 : ARow} {K : AVal → St → Prop} {post : AVal → ARow → Prop} (hs : TSpec P f r0 args0 post)
    (hk : ∀ x r', post x r' → K x ((st.killSub 0).upd 0 r')) (hlk : look st.hp 0 = some r0) (hv : vws st.hp [(0, .row 0)] 1 args args0) (hr : rowVw st.hp [(0, .row 0)] 1 (.row 0) r0)
    (hp : pargs args args0 = true := by rfl) (ht : tRow r0 = true := by rfl) : ACallT P st f args K :=
  ⟨hs.1, fun _ _ _ _ _ h vs hvs => (tmut_core 0 hs hk hlk hv hr hp ht h vs hvs).mono fun _ _ h => ⟨h.1, h.2.1, fun r hr => by
    rw [hlk] at hr
    obtain rfl := Option.some.inj hr
    exact h.2.2⟩⟩

/-- .. of a number, of a list: the contract's arguments are the call's -/
theorem ACallT.tmutI {f : FuncId} {n : Int} {r0 : ARow} {K : AVal → St → Prop} {post : AVal → ARow → Prop} (hs : TSpec P f r0 [.ptr 0 0, .c (.int .i64 n)] post)
    (hk : ∀ x r', post x r' → K x ((st.killSub 0).upd 0 r')) (hlk : look st.hp 0 = some r0) (hr : rowVw st.hp [(0, .row 0)] 1 (.row 0) r0)
    (ht : tRow r0 = true := by rfl) : ACallT P st f [.ptr 0 0, .c (.int .i64 n)] K := ACallT.tmut hs hk hlk ⟨⟨rfl, rfl, rfl⟩, rfl, trivial⟩ hr rfl ht
theorem ACallT.tmutL {f : FuncId} {k : IntKind} {l : List Int} {r0 : ARow} {K : AVal → St → Prop} {post : AVal → ARow → Prop} (hs : TSpec P f r0 [.ptr 0 0, .t (.ints k l)] post)
    (hk : ∀ x r', post x r' → K x ((st.killSub 0).upd 0 r')) (hlk : look st.hp 0 = some r0) (hr : rowVw st.hp [(0, .row 0)] 1 (.row 0) r0)
    (ht : tRow r0 = true := by rfl) : ACallT P st f [.ptr 0 0, .t (.ints k l)] K := ACallT.tmut hs hk hlk ⟨⟨rfl, rfl, rfl⟩, rfl, trivial⟩ hr rfl ht

theorem give_core {j e : Nat} {kd : IntKind} {l : List Int} (hr : look st.hp j = some (.ints e kd l)) (hj : j ≠ 0) (h : SRep w0 ob st a w η) {vs : List Value}
    (hvs : VReps w (fun b => ob b ∨ ownB st.hp η b) st.hp st.nx η [.ptr 0 0, .own j] vs) : VReps w (fun b => ob b ∨ ownB (st.del j).hp η b) (st.del j).hp (st.del j).nx η [.ptr 0 0, .t (.ints kd l)] vs := by
  match vs, hvs with
  | [v1, v2], ⟨h1, h2, _⟩ =>
    refine ⟨⟨h1.1, fun r hr' => h1.2 r (by simpa [St.del, look_rem_ne _ _ _ (Ne.symm hj)] using hr')⟩, ?_, trivial⟩
    have hrow := h.heap.row j _ hr
    have e2 := (h2.2 _ hr).2
    subst e2
    refine own_intsB hrow.1 (fun b hb => ?_)
    have hm : b ∈ bsOf η j (.ints e kd l) := by simp [bsOf, ARow.kind, hb]
    rintro (h3 | ⟨j', r', hj', hm'⟩)
    · exact h.free ⟨j, _, hr, hm⟩ h3
    · simp only [St.del] at hj'
      by_cases e3 : j' = j
      · subst e3; rw [look_rem] at hj'; cases hj'
      · rw [look_rem_ne _ _ _ e3] at hj'
        exact h.heap.apart j' r' j _ hj' hr e3 b hm' hm

/-- a list of the call's own is given away, read-only from here on -/
theorem ACallS.give {f : FuncId} {j e : Nat} {kd : IntKind} {l : List Int} {K : AVal → St → Prop} (h : ACallS P (st.del j) f [.ptr 0 0, .t (.ints kd l)] K)
    (hr : look st.hp j = some (.ints e kd l) := by rfl) (hj : Nat.beq j 0 = false := by rfl) : ACallS P st f [.ptr 0 0, .own j] K := by
  have hj : j ≠ 0 := fun e => by rw [e] at hj; cases hj
  exact ⟨h.fok, fun w0 ob a w η hs vs hvs => (h.run w0 ob a w η (hs.giveUp j) vs (give_core hr hj hs hvs)).mono fun e w' h => h⟩
theorem ACallT.give {f : FuncId} {j e : Nat} {kd : IntKind} {l : List Int} {K : AVal → St → Prop} (h : ACallT P (st.del j) f [.ptr 0 0, .t (.ints kd l)] K)
    (hr : look st.hp j = some (.ints e kd l) := by rfl) (hj : Nat.beq j 0 = false := by rfl) : ACallT P st f [.ptr 0 0, .own j] K := by
  have hj : j ≠ 0 := fun e => by rw [e] at hj; cases hj
  refine ⟨h.fok, fun w0 ob a w η hs vs hvs => (h.run w0 ob a w η (hs.giveUp j) vs (give_core hr hj hs hvs)).mono fun e w' h => ⟨h.1, h.2.1, fun r hr' => h.2.2 r ?_⟩⟩
  show look (rem j st.hp) 0 = some r
  rw [look_rem_ne _ _ _ (Ne.symm hj)]; exact hr'
end
end Go.Aw
/- 'x[i] = append(x[i], ..)' on rows of the call's own. -/
namespace Go.Aw
open Go.RowKit

theorem F2.set' {α β : Type} {R R' : α → β → Prop} : ∀ {l : List α} {r : List β}, F2 R l r → ∀ {i : Nat} {a : α} {b : β}, (∀ (j : Nat) (x : α) (y : β), j ≠ i → l[j]? = some x → r[j]? = some y → R x y → R' x y) → R' a b → F2 R' (l.set i a) (r.set i b)
  | [], [], _, _, _, _, _, _ => by simp [F2]
  | x :: l, y :: r, h, 0, _, _, hj, hab => ⟨hab, F2.intro (F2.length h.2) (fun j u v hu hv => by
      obtain ⟨v', hv', h'⟩ := F2.at h.2 hu
      rw [hv] at hv'; obtain rfl := Option.some.inj hv'
      exact hj (j + 1) u v (by omega) (by simpa using hu) (by simpa using hv) h')⟩
  | x :: l, y :: r, h, i + 1, _, _, hj, hab => ⟨hj 0 x y (by omega) rfl rfl h.1, F2.set' h.2 (fun j u v hne hu hv => hj (j + 1) u v (by omega) (by simpa using hu) (by simpa using hv)) hab⟩
  | [], _ :: _, h, _, _, _, _, _ => h.elim
  | _ :: _, [], h, _, _, _, _, _ => h.elim

theorem flat_set2 : ∀ {xs : List Value} {v old : Value} (i : Nat), xs[i]? = some old → (xs.flatMap blk).Nodup → (blk v).Nodup → (∀ b, b ∈ blk v → b ∈ blk old ∨ b ∉ xs.flatMap blk) →
    ((xs.set i v).flatMap blk).Nodup ∧ (∀ b, b ∈ (xs.set i v).flatMap blk → b ∈ blk v ∨ b ∈ xs.flatMap blk)
  | [], _, _, i, h, _, _, _ => by simp at h
  | x :: xs, v, old, 0, h, hn, hv, hd => by
      simp at h; subst h
      rw [List.flatMap_cons] at hn hd
      obtain ⟨n1, n2, n3⟩ := List.nodup_append.1 hn
      rw [List.set_cons_zero, List.flatMap_cons, List.flatMap_cons]
      refine ⟨List.nodup_append.2 ⟨hv, n2, fun a ha b hb e => ?_⟩, fun b hb => ?_⟩
      · subst e
        rcases hd a ha with h1 | h1
        · exact n3 a h1 a hb rfl
        · exact h1 (List.mem_append.2 (.inr hb))
      · rcases List.mem_append.1 hb with h1 | h1
        · exact .inl h1
        · exact .inr (List.mem_append.2 (.inr h1))
  | x :: xs, v, old, i + 1, h, hn, hv, hd => by
      simp at h
      rw [List.flatMap_cons] at hn hd
      obtain ⟨n1, n2, n3⟩ := List.nodup_append.1 hn
      have hold : ∀ b, b ∈ blk old → b ∈ xs.flatMap blk := fun b hb => List.mem_flatMap.2 ⟨old, List.mem_of_getElem? h, hb⟩
      obtain ⟨f1, f2⟩ := flat_set2 i h n2 hv (fun b hb => (hd b hb).imp id (fun h1 h2 => h1 (List.mem_append.2 (.inr h2))))
      rw [List.set_cons_succ, List.flatMap_cons, List.flatMap_cons]
      refine ⟨List.nodup_append.2 ⟨n1, f1, fun a ha b hb e => ?_⟩, fun b hb => ?_⟩
      · subst e
        rcases f2 a hb with h1 | h1
        · rcases hd a h1 with h2 | h2
          · exact n3 a ha a (hold a h2) rfl
          · exact h2 (List.mem_append.2 (.inl ha))
        · exact n3 a ha a h1 rfl
      · rcases List.mem_append.1 hb with h1 | h1
        · exact .inr (List.mem_append.2 (.inl h1))
        · exact (f2 b h1).imp id (fun h2 => List.mem_append.2 (.inr h2))

def aset (Γ : Tys) (st : St) (e t : Nat) (u v x c : Operand) (d1 d2 : Nat) (K : St → Prop) : Prop :=
  match look Γ t with
  | some ⟨.slice e', _, _, _⟩ => match look Γ e' with
    | some ⟨.slice _, 1, _, _⟩ => match look Γ e with
      | some ⟨.slice ei, _, _, _⟩ => match look Γ ei with
        | some ⟨_, 1, by_, [_]⟩ => match Nat.ble by_ 64 with
          | true => match ev st u with
            | some (.sub k i) => match ev st v with
              | some (.own k2) => match ev (st.put d1 .un) x with
                | some (.own k') => match ev (st.put d1 .un) c with
                  | some (.c (.int _ n)) => match look st.hp k with
                    | some (.rows e0 e1 true m) => match look st.hp k2 with
                      | some (.ints _ .i64 l2) => match Nat.beq k k' && Nat.beq e1 ei && Nat.blt d1 st.sz && Nat.blt d2 st.sz with
                        | true => n = (i : Int) ∧ i < m.length ∧ (m.getD i []).length + l2.length ≤ room ∧
                            K ((((st.put d1 .un).put d2 .un).killSub k).upd k (.rows e0 e1 true (m.set i (m.getD i [] ++ l2))))
                        | false => False
                      | _ => False
                    | _ => False
                  | _ => False
                | _ => False
              | _ => False
            | _ => False
          | false => False
        | _ => False
      | _ => False
    | _ => False
  | _ => False

section
variable {P : Program} {Γ : Tys} {w0 : Base} {w w' : World} {ob : Nat → Prop} {st : St} {a : Act} {η : Env}

theorem eval_put {d i : Nat} {v : Value} (hd : d < a.tmps.size) : (a.put (some d) v).eval (.tmp i) = if d = i then v else a.eval (.tmp i) := getD_put hd

theorem aset_sound (hΓ : TysOk P Γ) (h : SRep w0 ob st a w η) {e t e' d1 d2 : Nat} {u v x c : Operand} {K : St → Prop} (hd : d1 ≠ d2) {s1 s2 : Nat} {s3 : List Value} (ht' : look Γ t = some ⟨.slice e', s1, s2, s3⟩)
    {o1 o2 o3 : Oper} (h1 : o1.op = .call ⟨.builtin .append, #[u, v], #[e, e]⟩) (h1d : o1.dst = some d1) (h1g : o1.guard = none)
    (h2 : o2.op = .indexAddr t x c) (h2d : o2.dst = some d2) (h2g : o2.guard = none) (h3 : o3.op = .store e' (.tmp d2) (.tmp d1)) (h3d : o3.dst = none) (h3g : o3.guard = none)
    (hk : aset Γ st e t u v x c d1 d2 K) {opsA : Array Oper} {Q : Exit → Act → World → Prop} (hQ : ∀ st' a' w' η', K st' → SRep w0 ob st' a' w' η' → Q .normal a' w') : wpList P opsA Q [o1, o2, o3] a w := by
  unfold aset at hk
  rw [ht'] at hk
  simp only at hk
  split at hk
  case h_2 => exact hk.elim
  case h_1 q1 q2 q3 hte' =>
  split at hk
  case h_2 => exact hk.elim
  case h_1 ei q4 q5 q6 he =>
  split at hk
  case h_2 => exact hk.elim
  case h_1 q7 by_ zv hei =>
  split at hk
  case h_2 => exact hk.elim
  case h_1 hby =>
  split at hk
  case h_2 => exact hk.elim
  case h_1 k i hu =>
  split at hk
  case h_2 => exact hk.elim
  case h_1 k2 hv =>
  split at hk
  case h_2 => exact hk.elim
  case h_1 k' hx =>
  split at hk
  case h_2 => exact hk.elim
  case h_1 kk n hc =>
  split at hk
  case h_2 => exact hk.elim
  case h_1 e0 e1 m hr =>
  split at hk
  case h_2 => exact hk.elim
  case h_1 e2 l2 hr2 =>
  split at hk
  case h_2 => exact hk.elim
  case h_1 hcond =>
  simp only [Bool.and_eq_true] at hcond
  obtain ⟨⟨⟨c1, c2⟩, c3⟩, c4⟩ := hcond
  have c1 := Nat.eq_of_beq_eq_true c1
  have c2 := Nat.eq_of_beq_eq_true c2
  subst c1 c2
  have c3 : d1 < st.sz := Nat.le_of_ble_eq_true c3
  have c4 : d2 < st.sz := Nat.le_of_ble_eq_true c4
  obtain ⟨rfl, hi, hroom, hK⟩ := hk
  have hby' := Nat.le_of_ble_eq_true hby
  have tyt := (hΓ.at ht').desc
  have tye := (hΓ.at he).desc
  simp only [TD.is] at tyt tye
  have tyei := hΓ.at hei
  have tye' := hΓ.at hte'
  have hrow := h.heap.row k _ hr
  obtain ⟨hlt, hsub⟩ := (ev_sound h hu : VR w ob st η (.sub k i) (a.eval u))
  obtain ⟨_, hcel⟩ := hsub _ hr
  obtain ⟨li, hli, howni⟩ := F2.at' hrow.2 hcel
  have hli' : li = m.getD i [] := by simp [List.getD, hli]
  subst hli'
  obtain ⟨_, hown2⟩ := (ev_sound h hv : VR w ob st η (.own k2) (a.eval v))
  obtain ⟨_, hv2⟩ := hown2 _ hr2
  have hsrc : Src w (a.eval v) l2.length (l2.map (Value.int .i64)) := by rw [hv2]; exact Src.own (h.heap.row k2 _ hr2).1
  obtain ⟨v', w', hrun, hown', hfr, hsz, hsame, hB, hnd'⟩ := run_append_fresh (ty := o1.type) tye tyei rfl hby' rfl howni hsrc (fun y hy => by obtain ⟨_, _, rfl⟩ := List.mem_map.1 hy; rfl) hroom (wB h)
  have hs1 : SRep w0 ob (st.put d1 .un) (a.put (some d1) v') w η := h.put c3 (x := .un) trivial
  have hsz1 : d1 < a.tmps.size := by rw [h.size]; exact c3
  obtain ⟨_, hownx⟩ := (ev_sound hs1 hx : VR w ob (st.put d1 .un) η (.own k) _)
  obtain ⟨_, hxv⟩ := hownx _ hr
  obtain ⟨hcv, _⟩ := (ev_sound hs1 hc : VR w ob (st.put d1 .un) η (.c (.int kk i)) _)
  obtain ⟨ba, cp, hval⟩ := len_own hrow.1
  have hlen := F2.length hrow.2
  obtain ⟨g, rfl, hg0⟩ : ∃ g, ba = some ⟨g, 0, none⟩ ∧ True := by
    rcases hrow.1.2 with ⟨h0, h0'⟩ | ⟨g, cap, cur, h0, _⟩
    · omega
    · rw [hval] at h0; cases h0; exact ⟨g, rfl, trivial⟩
  have hbk : blk (η.val k) = [g] := by rw [hval]; rfl
  have hbs : bsOf η k (.rows e0 e1 true m) = blk (η.val k) ++ (η.cel k).flatMap blk := by simp [bsOf, ARow.kind]
  have hnod := h.heap.nodup k _ hr
  rw [hbs, hbk] at hnod
  obtain ⟨n1, n2, n3⟩ := List.nodup_append.1 hnod
  have hsubm : ∀ b, b ∈ blk (a.eval u) → b ∈ (η.cel k).flatMap blk := fun b hb => List.mem_flatMap.2 ⟨_, List.mem_of_getElem? hcel, hb⟩
  have hgu : g ∉ blk (a.eval u) := fun hb => n3 g (by simp) g (hsubm g hb) rfl
  have hblt : ∀ b, b ∈ bsOf η k (.rows e0 e1 true m) → b < w.heap.size := fun b hb => (RowRep.lt hrow b hb).2
  have hg : g < w.heap.size := hblt g (by rw [hbs, hbk]; simp)
  have hown1 : w'.ownsRow w0.B e0 1 (η.val k) m.length (η.cel k) := ownsRow_same hrow.1 (fun b hb => by
    rw [hbk] at hb; obtain rfl := List.mem_singleton.1 hb
    exact hsame b hg hgu)
  obtain ⟨cur, hg1, ho, hBg, hown3⟩ := own_set hown1 hbk hi v'
  obtain ⟨vb, vc, hvv⟩ := len_own hown'
  have hcellv : v'.cells = [v'].toArray ∧ v'.oneCell' = true := by rw [hvv]; exact ⟨rfl, rfl⟩
  have hst := run_storeAt (P := P) tye' (us := [v']) hcellv.1 rfl (by simp [hcellv.2]) hg1 ho
  let p : Value := .pointer (some ⟨g, 0 + i, none⟩)
  have hs2 : SRep w0 ob ((st.put d1 .un).put d2 .un) ((a.put (some d1) v').put (some d2) p) w η := hs1.put c4 (x := .un) trivial
  have hsz2 : d2 < (a.put (some d1) v').tmps.size := by rw [hs1.size]; exact c4
  let w2 := w'.setRow g (cur.toList.take i ++ [v'] ++ cur.toList.drop (i + 1)).toArray
  have hB2 : Below w0.B w w2 := hB.trans (below_setRow hBg _)
  have hfresh : ∀ b, b ∈ blk v' → b ∈ blk (a.eval u) ∨ b ∉ (η.cel k).flatMap blk := fun b hb => (hfr b hb).imp id (fun e hm => by
    have := hblt b (by rw [hbs]; exact List.mem_append.2 (.inr hm)); omega)
  obtain ⟨f1, f2⟩ := flat_set2 i hcel n2 hnd' hfresh
  have hgv : g ∉ blk v' := fun hb => by
    rcases hfr g hb with h1 | h1
    · exact hgu h1
    · omega
  have hbs' : bsOf (η.upd k (η.val k) ((η.cel k).set i v')) k (.rows e0 e1 true (m.set i (m.getD i [] ++ l2))) = blk (η.val k) ++ ((η.cel k).set i v').flatMap blk := by simp [bsOf, ARow.kind, upd_val, upd_cel]
  have hfin := SRep.mutT (w' := w2) (r' := .rows e0 e1 true (m.set i (m.getD i [] ++ l2))) (cs' := (η.cel k).set i v') hs2 hr rfl (by simp)
    (fun b hb hn => by
      rw [hbs, hbk] at hn
      have e1 : b ≠ g := fun e => hn (by rw [e]; simp)
      show (w'.setRow g _).heap[b]? = _
      rw [setRow_other w' g b _ e1]
      exact hsame b hb (fun hm => hn (List.mem_append.2 (.inr (hsubm b hm))))) hB2
    (by
      rw [hbs', hbk]
      refine List.nodup_append.2 ⟨n1, f1, fun b hb1 b' hb' e => ?_⟩
      subst e
      obtain rfl := List.mem_singleton.1 hb1
      rcases f2 b hb' with h2 | h2
      · exact hgv h2
      · exact n3 b (by simp) b h2 rfl)
    (fun b hb => by
      rw [hbs'] at hb
      rcases List.mem_append.1 hb with h2 | h2
      · exact .inl (by rw [hbs]; exact List.mem_append.2 (.inl h2))
      · rcases f2 b h2 with h3 | h3
        · rcases hfr b h3 with h4 | h4
          · exact .inl (by rw [hbs]; exact List.mem_append.2 (.inr (hsubm b h4)))
          · exact .inr (by omega)
        · exact .inl (by rw [hbs]; exact List.mem_append.2 (.inr h3)))
    (by
      refine ⟨?_, ?_⟩
      · rw [upd_val, upd_cel, List.length_set]; exact hown3
      · rw [upd_cel]
        refine F2.set' hrow.2 (fun j l1 y hne hl1 hy ho1 => ?_) ?_
        · have hap := flat_apart n2 hy hcel hne
          refine own_other (ownsRow_same ho1 (fun b hb => ?_)) (fun hb => n3 g (by simp) g (List.mem_flatMap.2 ⟨y, List.mem_of_getElem? hy, hb⟩) rfl) _
          exact hsame b (hblt b (by rw [hbs]; exact List.mem_append.2 (.inr (List.mem_flatMap.2 ⟨y, List.mem_of_getElem? hy, hb⟩)))) (hap b hb)
        · refine own_other ?_ hgv _
          simp only [List.length_append, List.map_append]
          exact hown')
  have r1 : (execOp a.eval o1).run P w = .ok (.value v') w' := by simp [execOp, h1, resolve, invoke, builtin, hrun]
  have r2 : (execOp (a.put (some d1) v').eval o2).run P w' = .ok (.value p) w' := by
    simp only [execOp, h2, hxv, hcv, hval]
    simp [run_idx_sl tyt tye' rfl hi w', p]
  have r3 : (execOp ((a.put (some d1) v').put (some d2) p).eval o3).run P w' = .ok .skip w2 := by
    refine ANStore h3 ?_
    rw [eval_put hsz2, if_pos rfl, eval_put hsz2, if_neg (Ne.symm hd), eval_put hsz1, if_pos rfl]
    simp only [p, Nat.zero_add]
    exact hst
  unfold wpList
  rw [if_pos (by simp [Region.wanted, h1g])]
  refine .inl ?_
  unfold Oper.wp
  rw [r1, Oper.upon_value, h1d]
  unfold wpList
  rw [if_pos (by simp [Region.wanted, h2g])]
  refine .inl ?_
  unfold Oper.wp
  rw [r2, Oper.upon_value, h2d]
  unfold wpList
  rw [if_pos (by simp [Region.wanted, h3g])]
  refine .inl ?_
  unfold Oper.wp
  rw [r3, Oper.upon_skip, h3d]
  unfold wpList
  exact hQ _ _ _ _ hK hfin

theorem ASet.app (hΓ : TysOk P Γ) {ops : Array Oper} {p1 p2 p3 p4 p5 o1 o2 o3 : Oper} {e t e' d1 d2 s1 s2 : Nat} {s3 : List Value} {u v x c : Operand} {K : St → Prop}
    (hops : ops.toList = [p1, p2, p3, p4, p5, o1, o2, o3])
    (h1 : o1.op = .call ⟨.builtin .append, #[u, v], #[e, e]⟩) (h1d : o1.dst = some d1) (h1g : o1.guard = none)
    (h2 : o2.op = .indexAddr t x c) (h2d : o2.dst = some d2) (h2g : o2.guard = none) (h3 : o3.op = .store e' (.tmp d2) (.tmp d1)) (h3d : o3.dst = none) (h3g : o3.guard = none)
    (ht' : look Γ t = some ⟨.slice e', s1, s2, s3⟩) (hd : Nat.beq d1 d2 = false)
    (hk : alist P Γ ops.toList [p1, p2, p3, p4, p5] st [] (fun st1 => aset Γ st1 e t u v x c d1 d2 K)) : ASet P ops st K := by
  refine ⟨fun id w0 ob a w ⟨η, h⟩ => wp_region_list ?_⟩
  have nodec : DecOk [] a := fun d b hd => by simp [look] at hd
  have hne : d1 ≠ d2 := fun e => by rw [e, Nat.beq_refl] at hd; cases hd
  have := alist_soundR (P := P) hΓ (opsA := ops) (Q := fun e a' w' => e = .normal ∧ ∃ st', K st' ∧ StRep w0 ob st' a' w') [o1, o2, o3] (fun st1 a1 w1 η1 hk1 hs1 =>
    aset_sound hΓ hs1 hne ht' h1 h1d h1g h2 h2d h2g h3 h3d h3g hk1 (fun st' a' w' η' hK hs' => ⟨rfl, st', hK, η', hs'⟩)) [p1, p2, p3, p4, p5] st [] a w η h nodec hk
  rw [hops]
  exact this

/-- .. of which all orders come to states that an index tells -/
theorem ADraw.midI {ι : Type} {ops : Array Oper} {K : St → Prop} (mid : ι → St) (I : ι → Prop) (h : ADraw P ops st (fun st1 => ∃ i o, Seen o st1 (mid i) ∧ I i)) (hk : ∀ i, I i → K (mid i)) : ADraw P ops st K :=
  ⟨fun id w0 ob a w hr => wp_mono (h.run id w0 ob a w hr) (fun _ _ _ ⟨he, _, ⟨i, _, hv, hi⟩, ⟨_, hs⟩⟩ => ⟨he, mid i, hk i hi, _, hv.rep hs⟩)⟩
end
end Go.Aw
/- The cursor of the draws: next, pick, one. -/
namespace Go.Proofs.Ytkomndcehdneaaa
open Go.Aw
set_option maxRecDepth 100000

def OkB (l : List Int) : Prop := l.length ≤ 9223372036854775807 ∧ ∀ x, x ∈ l → 0 ≤ x ∧ x ≤ 255
abbrev cur (code : List Int) (a : Nat) (s : Int) : ARow := .cells 107 [.t (.ints .u8 code), .c (.int .i64 (a)), .c (.int .u64 s)]

theorem W_inr (n : Int) : InR (W n) := by
  unfold InR
  show _ ≤ IntKind.i64.wrap n ∧ IntKind.i64.wrap n ≤ _
  rw [IntKind.wrap_i64]; omega
theorem among_in {l : List Int} {lo hi : Int} {i : Nat} (h : rowIn l lo hi = true) (hl : i < l.length) : lo ≤ l.getD i 0 ∧ l.getD i 0 ≤ hi := by
  simp only [rowIn, inR, List.all_eq_true, decide_eq_true_eq] at h
  exact h _ (getD_mem hl)
theorem and255 (x : Int) : 0 ≤ IntKind.i64.wrap (bits .and .u64 x 255) ∧ IntKind.i64.wrap (bits .and .u64 x 255) ≤ 255 := by
  have h : bits .and .u64 x 255 = IntKind.u64.wrap ((BitVec.ofInt 64 x &&& BitVec.ofInt 64 255).toNat : Int) := rfl
  have h2 : (BitVec.ofInt 64 x &&& BitVec.ofInt 64 255).toNat ≤ 255 := by
    rw [BitVec.toNat_and]
    exact Nat.le_trans Nat.and_le_right (by decide)
  rw [h]
  generalize (BitVec.ofInt 64 x &&& BitVec.ofInt 64 255).toNat = n at h2
  rw [IntKind.wrap_u64, IntKind.wrap_i64]
  omega

theorem tmod_bd {a n : Int} (ha : 0 ≤ a) (hn : 0 < n) : 0 ≤ Int.tmod a n ∧ Int.tmod a n < n := by
  rw [Int.tmod_eq_emod_of_nonneg ha]
  exact ⟨Int.emod_nonneg _ (by omega), Int.emod_lt_of_pos _ hn⟩

theorem next_spec (code : List Int) (hc : OkB code) (a : Nat) (s : Int) (ha : a ≤ 1000000000) :
    TSpec Try.prog 227 (cur code a s) [.ptr 0 0] (fun v r => ∃ x s' : Int, v = .c (.int .i64 x) ∧ 0 ≤ x ∧ x ≤ 255 ∧ r = cur code (a + 1) s') := by
  refine tspec tyOk mx Try.func227 rfl (by kernel_rfl) rfl rfl ?_
  conv => whnf
  refine ADraw.std tyOk mx ⟨by kernel_rfl, ?_⟩
  conv => whnf
  refine ⟨fun h => ?_, fun h => ?_⟩
  · have h := ltT h
    have hb := hc.2 _ (getD_mem (d := 0) h)
    conv => whnf
    refine ADraw.std tyOk mx ⟨by kernel_rfl, ?_⟩
    conv => whnf
    refine ⟨a, rfl, h, ?_⟩
    conv => whnf
    rw [nat_wrap (by omega)]
    generalize IntKind.u64.wrap (IntKind.u64.wrap (IntKind.u64.wrap (s * 6364136223846793005) + IntKind.u64.wrap (IntKind.i64.wrap (code.getD a 0))) + 462197) = s'
    refine ADraw.std tyOk mx ⟨by kernel_rfl, ?_⟩
    conv => whnf
    refine ⟨fun h1 => ?_, fun h1 => ?_⟩
    · conv => whnf
      have e : IntKind.i64.wrap (code.getD a 0) = code.getD a 0 := w64 (by omega) (by omega)
      exact ⟨_, s', rfl, by omega, by omega, rfl⟩
    · exact absurd (of_decide_eq_false h1) (by omega)
  · have h := ltF h
    conv => whnf
    rw [nat_wrap (by omega)]
    generalize IntKind.u64.wrap (IntKind.u64.wrap (IntKind.u64.wrap (s * 6364136223846793005) + IntKind.u64.wrap 0) + 462197) = s'
    refine ADraw.std tyOk mx ⟨by kernel_rfl, ?_⟩
    conv => whnf
    refine ⟨fun h1 => ?_, fun h1 => ?_⟩
    · exact absurd (of_decide_eq_true h1) (by omega)
    · conv => whnf
      refine ⟨by omega, ?_⟩
      conv => whnf
      have e := and255 (shr IntKind.u64 s' 40)
      exact ⟨_, s', rfl, e.1, e.2, rfl⟩

theorem l1OwnC_spec (l : List Int) (hl : l.length ≤ 1048576) : FSpec Try.prog 210 [.t (.ints .i64 l)] (ex (.own 0) [(0, .ints 3 .i64 l)]) := by
  refine fspec tyOk mx Try.func210 rfl (by kernel_rfl) rfl ?_
  conv => whnf
  refine ⟨by simp [room]; omega, ?_⟩
  conv => whnf
  exact ⟨rfl, rfl⟩

/-- what a draw tells: a number in bounds, and the cursor moved on a little -/
def drawn (code : List Int) (a k : Nat) (lo hi : Int) (v : AVal) (r : ARow) : Prop :=
  ∃ (x : Int) (a' : Nat) (s' : Int), v = .c (.int .i64 x) ∧ lo ≤ x ∧ x < hi ∧ a ≤ a' ∧ a' ≤ a + k ∧ r = cur code a' s'

theorem pick_spec (code : List Int) (hc : OkB code) (a : Nat) (s : Int) (ha : a ≤ 900000000) (n : Int) (h0 : -1000 ≤ n) (h1 : n ≤ 65536) :
    TSpec Try.prog 117 (cur code a s) [.ptr 0 0, .c (.int .i64 (n))] (drawn code a 2 0 (max n 1)) := by
  refine tspec tyOk mx Try.func117 rfl (by kernel_rfl) rfl rfl ?_
  conv => whnf
  refine ⟨fun h => ?_, fun h => ?_⟩
  · have h := of_decide_eq_true h
    conv => whnf
    exact ⟨0, a, s, rfl, by omega, by omega, by omega, by omega, rfl⟩
  · have h := of_decide_eq_false h
    conv => whnf
    refine ACallS.tmut 0 (next_spec code hc a s (by omega)) ?_ rfl (by (repeat' (first | exact trivial | exact rfl | refine And.intro ?_ ?_)) <;> (try first | omega | (simp; done))) (by (repeat' (first | exact trivial | exact rfl | refine And.intro ?_ ?_)) <;> (try first | omega | (simp; done)))
    rintro v r ⟨x, s1, rfl, x0, x1, rfl⟩
    conv => whnf
    refine ⟨fun h2 => ?_, fun h2 => ?_⟩
    · have h2 := of_decide_eq_true h2
      conv => whnf
      refine ACallS.tmut 0 (next_spec code hc (a + 1) s1 (by omega)) ?_ rfl (by (repeat' (first | exact trivial | exact rfl | refine And.intro ?_ ?_)) <;> (try first | omega | (simp; done))) (by (repeat' (first | exact trivial | exact rfl | refine And.intro ?_ ?_)) <;> (try first | omega | (simp; done)))
      rintro v r ⟨y, s2, rfl, y0, y1, rfl⟩
      conv => whnf
      refine ⟨by omega, ?_⟩
      conv => whnf
      have e1 : IntKind.i64.wrap (x * 256) = x * 256 := w64 (by omega) (by omega)
      have e2 : IntKind.i64.wrap (x * 256 + y) = x * 256 + y := w64 (by omega) (by omega)
      rw [e1, e2]
      have hz := tmod_bd (a := x * 256 + y) (n := n) (by omega) (by omega)
      refine ⟨_, a + 2, s2, rfl, ?_, ?_, by omega, by omega, rfl⟩
      · omega
      · omega
    · have h2 := of_decide_eq_false h2
      conv => whnf
      refine ⟨by omega, ?_⟩
      conv => whnf
      have hz := tmod_bd (a := x) (n := n) (by omega) (by omega)
      refine ⟨_, a + 1, s1, rfl, ?_, ?_, by omega, by omega, rfl⟩
      · omega
      · omega

def drawnB (code : List Int) (a k : Nat) (v : AVal) (r : ARow) : Prop := ∃ (x : Bool) (a' : Nat) (s' : Int), v = .c (.bool x) ∧ a ≤ a' ∧ a' ≤ a + k ∧ r = cur code a' s'
theorem one_spec (code : List Int) (hc : OkB code) (a : Nat) (s : Int) (ha : a ≤ 900000000) (n : Int) (h0 : -1000 ≤ n) (h1 : n ≤ 65536) :
    TSpec Try.prog 118 (cur code a s) [.ptr 0 0, .c (.int .i64 (n))] (drawnB code a 2) := by
  refine tspec tyOk mx Try.func118 rfl (by kernel_rfl) rfl rfl ?_
  conv => whnf
  refine ACallS.tmut 0 (pick_spec code hc a s ha n h0 h1) ?_ rfl (by (repeat' (first | exact trivial | exact rfl | refine And.intro ?_ ?_)) <;> (try first | omega | (simp; done))) (by (repeat' (first | exact trivial | exact rfl | refine And.intro ?_ ?_)) <;> (try first | omega | (simp; done)))
  rintro v r ⟨x, a1, s1, rfl, x0, x1, e1, e2, rfl⟩
  conv => whnf
  exact ⟨_, a1, s1, rfl, e1, e2, rfl⟩
end Go.Proofs.Ytkomndcehdneaaa
/- Games of signs, made: reference and program. -/
namespace Go.Aw
/-- no game, or a game of two rows of its own -/
def nilOrGame (ok : Bool) (x y : Int) (r1 r2 : ARow) : AVal → List (Nat × ARow) → Prop := fun v h =>
  (ok = false ∧ v = .tu [.ag [.c (.int .i64 0), .c (.int .i64 0), .c (.slice none 0 0), .c (.slice none 0 0)], .c (.bool false)] ∧ h = []) ∨ (ok = true ∧ v = .tu [.ag [.c (.int .i64 x), .c (.int .i64 y), .own 0, .own 1], .c (.bool true)] ∧ h = [(0, r1), (1, r2)])
theorem view_game {P : Program} {f : FuncId} {args : List AVal} {ok : Bool} {x y : Int} {e e1 e2 : Nat} {s : List Int} {m : List (List Int)} (h : FSpec P f args (nilOrGame ok x y (.ints e2 .i64 s) (.rows e e1 true m))) :
    FSpec P f args (ex (.tu [.ag [.c (.int .i64 (if ok then x else 0)), .c (.int .i64 (if ok then y else 0)), .t (.ints .i64 (if ok then s else [])), .t (.rows (if ok then m else []))], .c (.bool ok)]) []) := by
  have h1 : FSpec P f args (ex (.tu [.ag [.c (.int .i64 (if ok then x else 0)), .c (.int .i64 (if ok then y else 0)), .own 0, .own 1], .c (.bool ok)]) [(0, .ints e2 .i64 (if ok then s else [])), (1, .rows e e1 true (if ok then m else []))]) := by
    refine FSpec.view h ?_
    rintro v hr (⟨rfl, rfl, rfl⟩ | ⟨rfl, rfl, rfl⟩)
    · exact ⟨[(0, .nil), (1, .nil)], .tu [.ag [.c (.int .i64 0), .c (.int .i64 0), .own 0, .own 1], .c (.bool false)], [(0, .ints e2 .i64 []), (1, .rows e e1 true [])], rfl, ⟨rfl, trivial, rfl, trivial, trivial⟩, ⟨⟨rfl, rfl, ⟨rfl, rfl, rfl⟩, ⟨rfl, rfl, rfl⟩, trivial⟩, rfl, trivial⟩, rfl, rfl⟩
    · exact ⟨[(0, .row 0), (1, .row 1)], .tu [.ag [.c (.int .i64 x), .c (.int .i64 y), .own 0, .own 1], .c (.bool true)], [(0, .ints e2 .i64 s), (1, .rows e e1 true m)], rfl, ⟨rfl, rfl, rfl, rfl, trivial⟩, ⟨⟨rfl, rfl, ⟨rfl, rfl⟩, ⟨rfl, rfl⟩, trivial⟩, rfl, trivial⟩, rfl, rfl⟩
  refine FSpec.view h1 ?_
  rintro v hr ⟨rfl, rfl⟩
  exact ⟨[], .tu [.ag [.c (.int .i64 (if ok then x else 0)), .c (.int .i64 (if ok then y else 0)), .t (.ints .i64 (if ok then s else [])), .t (.rows (if ok then m else []))], .c (.bool ok)], [], rfl, trivial, ⟨⟨rfl, rfl, ⟨rfl, rfl⟩, ⟨rfl, rfl⟩, trivial⟩, rfl, trivial⟩, rfl, rfl⟩
end Go.Aw
namespace Go.Proofs.Ytkomndcehdneaaa
open Go.Aw
set_option maxRecDepth 100000
set_option maxHeartbeats 4000000

def winR (n : Int) : List Int := [W (1 - n), n, n, W (1 - n)]
def winsOf (odd : List Int) : List (List Int) := odd.map winR
def sgOk (x y : Int) (ws odd : List Int) : Bool := szOk x y && (decide ((odd.length : Int) = x * y) && (rowIn odd 0 1 && goodG x y ws (winsOf odd)))
theorem wins_take {odd : List Int} {k : Nat} (h : k < odd.length) {r : List Int} (hr : r = winR (odd.getD k 0)) : (winsOf (odd.take k)) ++ [r] = winsOf (odd.take (k + 1)) := by
  subst hr
  have e : odd.getD k 0 = odd[k] := by simp [List.getD, h]
  rw [e, List.take_succ_eq_append_getElem h]
  unfold winsOf
  rw [List.map_append]; rfl
theorem wins_sz {odd : List Int} (h : odd.length ≤ 9) : SzM (winsOf odd) := by
  have h1 : (winsOf odd).length = odd.length := by simp [winsOf]
  have h2 := tot_le_mul (m := winsOf odd) (n := 4) (fun r hr => by obtain ⟨i, _, rfl⟩ := List.mem_map.1 hr; exact Nat.le_refl 4)
  have : (winsOf odd).length * 4 ≤ 9 * 4 := Nat.mul_le_mul_right 4 (by omega)
  unfold SzM; omega

theorem copied_spec (l : List Int) (hl : l.length ≤ 1048576) : FSpec Try.prog 208 [.t (.ints .i64 l)] (ex (.own 0) [(0, .ints 3 .i64 l)]) := by
  refine fspec tyOk mx Try.func208 rfl (by kernel_rfl) rfl ?_
  conv => whnf
  refine ⟨by simp [room]; omega, ?_⟩
  conv => whnf
  exact ⟨rfl, rfl⟩
theorem SignGame_i (x y : Int) (ws odd : List Int) (ks : SzI ws) (ko : SzI odd) :
    FSpec Try.prog 88 [.c (.int .i64 (x)), .c (.int .i64 (y)), .t (.ints .i64 ws), .t (.ints .i64 odd)]
      (ex (.tu [.ag [.c (.int .i64 (if sgOk x y ws odd then x else 0)), .c (.int .i64 (if sgOk x y ws odd then y else 0)), .t (.ints .i64 (if sgOk x y ws odd then ws else [])), .t (.rows (if sgOk x y ws odd then winsOf odd else []))], .c (.bool (sgOk x y ws odd))]) []) := by
  have ks' : ws.length ≤ 1048576 := ks
  refine view_game (e := 25) (e1 := 3) (e2 := 3) ?_
  refine fspec tyOk mx Try.func88 rfl (by kernel_rfl) rfl ?_
  conv => whnf
  refine ACall.use (areQuestions_spec x y) ?_
  conv => whnf
  refine ⟨fun h => ?_, fun h => ?_⟩
  · have h : szOk x y = true := by simpa using h
    conv => whnf
    rw [szOk_mul h]
    refine ⟨fun h2 => ?_, fun h2 => ?_⟩
    · have h2 : (odd.length : Int) = x * y := by simpa using h2
      conv => whnf
      refine ACall.use (allWithin_spec odd 0 1 (by have : odd.length ≤ 1048576 := ko; omega)) ?_
      conv => whnf
      refine ⟨fun h3 => ?_, fun h3 => ?_⟩
      · have h3 : rowIn odd 0 1 = false := by simpa using h3
        conv => whnf
        exact .inl ⟨by rw [sgOk, h3]; simp, rfl, rfl⟩
      · have h3 : rowIn odd 0 1 = true := by simpa using h3
        have hol : odd.length ≤ 9 := by obtain ⟨a, b, _, _, _, _, _, _, h5, h6⟩ := szOk_nat h; omega
        conv => whnf
        refine ACall.use (copied_spec ws ks') ?_
        conv => whnf
        refine aloopI tyOk mx (fun k : Nat => (⟨60, [(8, .ptr 0 0), (9, .c (.bool false)), (10, .ptr 1 0), (36, .t (.ints .i64 odd)), (37, .c (.int .i64 (odd.length))), (38, .c (.int .i64 (k)))], [(0, .cells 84 [.c (.int .i64 (0)), .c (.int .i64 (0)), .c (.slice none 0 0), .c (.slice none 0 0)]), (1, .cells 84 [.c (.int .i64 (x)), .c (.int .i64 (y)), .own 2, .own 3]), (2, .ints 3 .i64 ws), (3, .rows 25 3 true (winsOf (odd.take k)))], 4⟩ : St)) (fun k => k ≤ odd.length) (fun k => odd.length - k) 0 (Nat.zero_le _) (some [(0, .row 0), (1, .row 2), (2, .row 1), (3, .nil)]) (by (refine ⟨rfl, rfl, ?_, ?_⟩ <;> ((repeat' (first | exact trivial | exact rfl | refine And.intro ?_ ?_)) <;> (try ((conv => whnf); first | refine vint ?_ | refine vboo ?_ | refine rint ?_ | refine rrow ?_ | skip)) <;> (try first | omega | (simp; done) | ((repeat rw [flts_closed _ (by assumption)]); exact vws_closed _ (by assumption)))))) (fun k hk => ?_)
        refine ⟨fun h5 => ?_, fun h5 => ?_⟩
        · have h5 := ltT h5
          have hwl : (winsOf (odd.take k)).length = k := by simp [winsOf]; omega
          conv => whnf
          refine ⟨k, rfl, h5, ?_⟩
          conv => whnf
          refine ⟨by simp [room]; omega, ?_⟩
          conv => whnf
          rw [nat_wrap (by omega)]
          refine ⟨k + 1, some [(0, .row 0), (1, .row 1), (2, .row 2), (3, .row 3)], ?_, by omega, by omega⟩
          rw [← wins_take h5 rfl]
          (refine ⟨rfl, rfl, ?_, ?_⟩ <;> ((repeat' (first | exact trivial | exact rfl | refine And.intro ?_ ?_)) <;> (try ((conv => whnf); first | refine vint ?_ | refine vboo ?_ | refine rint ?_ | refine rrow ?_ | skip)) <;> (try first | omega | (simp; done) | ((repeat rw [flts_closed _ (by assumption)]); exact vws_closed _ (by assumption)))))
        · have h5 := ltF h5
          obtain rfl : k = odd.length := by omega
          rw [List.take_length]
          conv => whnf
          refine ACall.use (iIsGame_spec x y ws (winsOf odd) ks (wins_sz hol)) ?_
          conv => whnf
          refine ⟨fun h6 => ?_, fun h6 => ?_⟩
          · have h6 : goodG x y ws (winsOf odd) = false := by simpa using h6
            conv => whnf
            exact .inl ⟨by rw [sgOk, h6]; simp, rfl, rfl⟩
          · have h6 : goodG x y ws (winsOf odd) = true := by simpa using h6
            conv => whnf
            exact .inr ⟨by rw [sgOk, h, h3, h6, decide_eq_true h2]; rfl, rfl, rfl⟩
    · have h2 : ¬ (odd.length : Int) = x * y := by simpa using h2
      (repeat (conv => whnf); (first | refine ⟨fun h => absurd h (by decide), fun _ => ?_⟩ | refine ⟨fun _ => ?_, fun h => absurd h (by decide)⟩)); conv => whnf
      exact .inl ⟨by rw [sgOk, decide_eq_false h2]; simp, rfl, rfl⟩
  · have h : szOk x y = false := by simpa using h
    (repeat (conv => whnf); (first | refine ⟨fun h => absurd h (by decide), fun _ => ?_⟩ | refine ⟨fun _ => ?_, fun h => absurd h (by decide)⟩)); conv => whnf
    exact .inl ⟨by rw [sgOk, h]; rfl, rfl, rfl⟩
theorem SignGame_s (x y : Int) (ws odd : List Int) (ks : SzI ws) (ko : SzI odd) :
    FSpec Try.prog 89 [.c (.int .i64 (x)), .c (.int .i64 (y)), .t (.ints .i64 ws), .t (.ints .i64 odd)]
      (ex (.tu [.ag [.c (.int .i64 (if sgOk x y ws odd then x else 0)), .c (.int .i64 (if sgOk x y ws odd then y else 0)), .t (.ints .i64 (if sgOk x y ws odd then ws else [])), .t (.rows (if sgOk x y ws odd then winsOf odd else []))], .c (.bool (sgOk x y ws odd))]) []) := by
  have ks' : ws.length ≤ 1048576 := ks
  have ko' : odd.length ≤ 1048576 := ko
  refine view_game (e := 25) (e1 := 3) (e2 := 3) ?_
  refine fspec tyOk mx Try.func89 rfl (by kernel_rfl) rfl ?_
  conv => whnf
  refine ACall.use (l2Sizes_spec x y) ?_
  conv => whnf
  refine ⟨fun h => ?_, fun h => ?_⟩
  · have h : szOk x y = true := by simpa using h
    conv => whnf
    rw [szOk_mul h]
    refine ACall.use (l2Bits_spec odd _ (by omega)) ?_
    conv => whnf
    refine ⟨fun h3 => ?_, fun h3 => ?_⟩
    · have h3 : (rowIn odd 0 1 && decide ((odd.length : Int) = x * y)) = false := by
        change (!(rowIn odd 0 1 && decide ((odd.length : Int) = x * y))) = true at h3
        generalize (rowIn odd 0 1 && decide ((odd.length : Int) = x * y)) = q at h3 ⊢
        simpa using h3
      conv => whnf
      refine .inl ⟨?_, rfl, rfl⟩
      rw [sgOk, ← Bool.and_assoc (decide _), Bool.and_comm (decide _), h3]; simp
    · have h3 : (rowIn odd 0 1 && decide ((odd.length : Int) = x * y)) = true := by
        change (!(rowIn odd 0 1 && decide ((odd.length : Int) = x * y))) = false at h3
        generalize (rowIn odd 0 1 && decide ((odd.length : Int) = x * y)) = q at h3 ⊢
        simpa using h3
      rw [Bool.and_eq_true, decide_eq_true_eq] at h3
      obtain ⟨h3, h2⟩ := h3
      have hol : odd.length ≤ 9 := by obtain ⟨a, b, _, _, _, _, _, _, h5, h6⟩ := szOk_nat h; omega
      conv => whnf
      refine ACall.use (l1OwnC_spec ws ks') ?_
      conv => whnf
      refine aloopI tyOk mx (fun k : Nat => (⟨66, [(3, .t (.ints .i64 odd)), (8, .ptr 0 0), (9, .c (.bool false)), (10, .ptr 1 0), (11, .c (.int .i64 (k)))], [(0, .cells 84 [.c (.int .i64 (0)), .c (.int .i64 (0)), .c (.slice none 0 0), .c (.slice none 0 0)]), (1, .cells 84 [.c (.int .i64 (x)), .c (.int .i64 (y)), .own 2, .own 3]), (2, .ints 3 .i64 ws), (3, .rows 25 3 true (winsOf (odd.take k)))], 4⟩ : St)) (fun k => k ≤ odd.length) (fun k => odd.length - k) 0 (Nat.zero_le _) (some [(0, .row 0), (1, .row 3), (2, .row 1), (3, .row 2)]) (by (refine ⟨rfl, rfl, ?_, ?_⟩ <;> ((repeat' (first | exact trivial | exact rfl | refine And.intro ?_ ?_)) <;> (try ((conv => whnf); first | refine vint ?_ | refine vboo ?_ | refine rint ?_ | refine rrow ?_ | skip)) <;> (try first | omega | (simp; done) | ((repeat rw [flts_closed _ (by assumption)]); exact vws_closed _ (by assumption)))))) (fun k hk => ?_)
      refine ⟨fun h5 => ?_, fun h5 => ?_⟩
      · have h5 := ltT h5
        have hwl : (winsOf (odd.take k)).length = k := by simp [winsOf]; omega
        refine ADraw.plan tyOk mx (.q 0 (.q 1 (.q 2 (.q 3 (.q 4 (.q 5 (.q 6 (.q 7 (.q 8 (.q 9 (.q 10 (.q 11 (.q 12 (.q 13 (.q 14 (.q 15 (.q 16 (.q 17 (.q 18 (.q 19 (.last 20 (.last 21 (.last 22 (.q 23 (.last 24 (.done))))))))))))))))))))))))) : Plan) (by kernel_rfl) ?_
        conv => whnf
        repeat' (first
          | (rw [nat_wrap (by omega)]; refine ⟨k + 1, some [(0, .row 0), (1, .row 1), (2, .row 2), (3, .row 3)], ?_, by omega, by omega⟩; rw [← wins_take h5 rfl]; (refine ⟨rfl, rfl, ?_, ?_⟩ <;> ((repeat' (first | exact trivial | exact rfl | refine And.intro ?_ ?_)) <;> (try ((conv => whnf); first | refine vint ?_ | refine vboo ?_ | refine rint ?_ | refine rrow ?_ | skip)) <;> (try first | omega | (simp; done) | ((repeat rw [flts_closed _ (by assumption)]); exact vws_closed _ (by assumption))))); done)
          | (refine ⟨k, rfl, h5, ?_⟩; conv => whnf)
          | (refine ⟨by simp [room]; omega, ?_⟩; conv => whnf)
          | (refine And.intro ?_ ?_ <;> (conv => whnf)))
      · have h5 := ltF h5
        obtain rfl : k = odd.length := by omega
        rw [List.take_length]
        conv => whnf
        refine ACall.use (l4Game_spec x y ws (winsOf odd) ks (wins_sz hol)) ?_
        conv => whnf
        refine ⟨fun h6 => ?_, fun h6 => ?_⟩
        · have h6 : goodG x y ws (winsOf odd) = false := by simpa using h6
          conv => whnf
          exact .inl ⟨by rw [sgOk, h6]; simp, rfl, rfl⟩
        · have h6 : goodG x y ws (winsOf odd) = true := by simpa using h6
          conv => whnf
          exact .inr ⟨by rw [sgOk, h, h3, h6, decide_eq_true h2]; rfl, rfl, rfl⟩
  · have h : szOk x y = false := by simpa using h
    (repeat (conv => whnf); (first | refine ⟨fun h => absurd h (by decide), fun _ => ?_⟩ | refine ⟨fun _ => ?_, fun h => absurd h (by decide)⟩)); conv => whnf
    exact .inl ⟨by rw [sgOk, h]; rfl, rfl, rfl⟩
end Go.Proofs.Ytkomndcehdneaaa
/- Functionals of games, lost pairs: reference and program. -/
namespace Go.Aw
def lostC (s : List Int) (m : List (List Int)) (p : List Int) (nx ny i k : Nat) : Bool := decide (s.getD (i * ny + k) 0 > 0) && ((m.getD (i * ny + k) []).getD (bitIx p nx i k) 0 == 0)
def lostRow (s : List Int) (m : List (List Int)) (p : List Int) (nx ny i : Nat) (l : List Int) (n : Nat) : List Int := fo (fun l k => if lostC s m p nx ny i k then l ++ [((i * ny + k : Nat) : Int)] else l) l n
def lostTo (s : List Int) (m : List (List Int)) (p : List Int) (nx ny n : Nat) : List Int := fo (fun l i => lostRow s m p nx ny i l ny) [] n
theorem lostRow_len (s : List Int) (m : List (List Int)) (p : List Int) (nx ny i : Nat) (l : List Int) : ∀ n, (lostRow s m p nx ny i l n).length ≤ l.length + n
  | 0 => by simp [lostRow, fo]
  | n + 1 => by
    have := lostRow_len s m p nx ny i l n
    show (if lostC s m p nx ny i n then lostRow s m p nx ny i l n ++ [((i * ny + n : Nat) : Int)] else lostRow s m p nx ny i l n).length ≤ _
    split
    · rw [List.length_append, List.length_singleton]; omega
    · omega
theorem lostTo_len (s : List Int) (m : List (List Int)) (p : List Int) (nx ny : Nat) : ∀ n, (lostTo s m p nx ny n).length ≤ n * ny
  | 0 => by simp [lostTo, fo]
  | n + 1 => by
    have := lostTo_len s m p nx ny n
    have h2 := lostRow_len s m p nx ny n (lostTo s m p nx ny n) ny
    show (lostRow s m p nx ny n (lostTo s m p nx ny n) ny).length ≤ _
    rw [Nat.succ_mul]; omega
end Go.Aw
namespace Go.Proofs.Ytkomndcehdneaaa
open Go.Aw
set_option maxRecDepth 100000
set_option maxHeartbeats 4000000

def gfRes (x y : Int) (s : List Int) (m : List (List Int)) : List (List Int) := if goodG x y s m then funG s m else []
theorem GameFunctional_s (x y : Int) (s : List Int) (m : List (List Int)) (_hx : InR x) (_hy : InR y) (_hs : OkI s) (_hm : OkM m) (ks : SzI s) (km : SzM m) :
    FSpec Try.prog 80 [.ag [.c (.int .i64 (x)), .c (.int .i64 (y)), .t (.ints .i64 s), .t (.rows m)]] (ex (.tu [.own 0, .c (.bool (goodG x y s m))]) [(0, .rows 25 3 true (gfRes x y s m))]) := by
  refine fspec tyOk mx Try.func80 rfl (by kernel_rfl) rfl ?_
  conv => whnf
  refine ACall.use (l4Game_spec x y s m ks km) ?_
  conv => whnf
  refine ⟨fun h => ?_, fun h => ?_⟩
  · have h : goodG x y s m = false := by simpa using h
    conv => whnf
    refine ⟨?_, ?_⟩
    · rw [h]
    · rw [gfRes, h]; rfl
  · have h : goodG x y s m = true := by simpa using h
    have h' := h
    obtain ⟨a, b, rfl, rfl, g1, g2, g3, g4, g5, g6, g7, g8, g9, g10⟩ := goodG_spec h
    conv => whnf
    refine ACall.use (l4Functional_spec _ _ s m (by omega) (by omega) (fun r hr => (g10 r hr).1)) ?_
    conv => whnf
    refine ⟨?_, ?_⟩
    · rw [h']
    · rw [gfRes, h']; rfl
theorem GameFunctional_i (x y : Int) (s : List Int) (m : List (List Int)) (_hx : InR x) (_hy : InR y) (_hs : OkI s) (_hm : OkM m) (ks : SzI s) (km : SzM m) :
    FSpec Try.prog 79 [.ag [.c (.int .i64 (x)), .c (.int .i64 (y)), .t (.ints .i64 s), .t (.rows m)]] (ex (.tu [.own 0, .c (.bool (goodG x y s m))]) [(0, .rows 25 3 true (gfRes x y s m))]) := by
  refine view_rows ?_
  refine fspec tyOk mx Try.func79 rfl (by kernel_rfl) rfl ?_
  conv => whnf
  refine ACall.use (iIsGame_spec x y s m ks km) ?_
  conv => whnf
  refine ⟨fun h => ?_, fun h => ?_⟩
  · have h : goodG x y s m = false := by simpa using h
    conv => whnf
    exact .inl ⟨h, rfl, rfl⟩
  · have h : goodG x y s m = true := by simpa using h
    have h' := h
    obtain ⟨a, b, rfl, rfl, g1, g2, g3, g4, g5, g6, g7, g8, g9, g10⟩ := goodG_spec h
    conv => whnf
    refine ACall.use (functional_spec _ _ s m (by omega) (by omega) (fun r hr => by have := (g10 r hr).1; omega)) ?_
    conv => whnf
    exact .inr ⟨h', rfl, rfl⟩
theorem GameFunctional_bd (x y : Int) (s : List Int) (m : List (List Int)) (_hx : InR x) (_hy : InR y) (_hs : OkI s) (_hm : OkM m) (_ks : SzI s) (_km : SzM m) : (gfRes x y s m).length ≤ 1000000 ∧ tot (gfRes x y s m) ≤ 1000000 := by
  unfold gfRes
  split
  · rename_i h
    obtain ⟨a, b, rfl, rfl, g1, g2, g3, g4, g5, g6, g7, g8, g9, g10⟩ := goodG_spec h
    have h1 : (funG s m).length = m.length := by simp [funG]
    have h2 := tot_le_mul (m := funG s m) (n := 4) (fun q hq => by
      obtain ⟨i, hi, rfl⟩ := List.mem_map.1 hq
      have := (g10 _ (getD_mem (d := []) (by simpa using hi))).1
      rw [fnGRow, List.length_map]; omega)
    omega
  · simp [tot]

theorem lost_spec (nx ny : Nat) (s : List Int) (m : List (List Int)) (p : List Int) (hx : nx ≤ 3) (hy : ny ≤ 3) (hs : s.length = nx * ny) (hm : m.length = nx * ny) (h4 : ∀ r, r ∈ m → r.length = 4) (hp : ∀ v, v ∈ p → 0 ≤ v ∧ v ≤ 1) (hl : p.length = nx + ny) :
    FSpec Try.prog 206 [.ag [.c (.int .i64 (nx)), .c (.int .i64 (ny)), .t (.ints .i64 s), .t (.rows m)], .t (.ints .i64 p)] (ex (.own 0) [(0, .ints 3 .i64 (lostTo s m p nx ny nx))]) := by
  have hn : nx * ny ≤ 3 * 3 := Nat.mul_le_mul hx hy
  refine fspec tyOk mx Try.func206 rfl (by kernel_rfl) rfl ?_
  conv => whnf
  refine aloopI tyOk mx (fun i : Nat => (⟨62, [(1, .t (.ints .i64 p)), (2, .ptr 0 0), (5, .own 1), (11, .c (.int .i64 (nx))), (12, .c (.int .i64 (i)))], [(0, .cells 84 [.c (.int .i64 (nx)), .c (.int .i64 (ny)), .t (.ints .i64 s), .t (.rows m)]), (1, .ints 3 .i64 (lostTo s m p nx ny i))], 2⟩ : St)) (fun i => i ≤ nx) (fun i => nx - i) 0 (Nat.zero_le _) none (by refine ⟨rfl, rfl, ?_, ?_⟩ <;> ((repeat' (first | exact trivial | exact rfl | refine And.intro ?_ ?_)) <;> (try ((conv => whnf); first | refine vint ?_ | refine vboo ?_ | refine rint ?_ | refine rrow ?_ | skip)) <;> (try first | omega | (simp; done) | ((repeat rw [flts_closed _ (by assumption)]); exact vws_closed _ (by assumption))))) (fun i hi => ?_)
  have hlen := lostTo_len s m p nx ny i
  have hin : i * ny ≤ 9 := Nat.le_trans (Nat.mul_le_mul_right ny hi) hn
  refine ⟨fun h => ?_, fun h => ?_⟩
  · have h := ltT h
    conv => whnf
    refine aloopI tyOk mx (fun k : Nat => (⟨62, [(1, .t (.ints .i64 p)), (2, .ptr 0 0), (5, .own 1), (6, .c (.int .i64 (i))), (11, .c (.int .i64 (nx))), (12, .c (.int .i64 (i))), (16, .c (.int .i64 (ny))), (17, .c (.int .i64 (k)))], [(0, .cells 84 [.c (.int .i64 (nx)), .c (.int .i64 (ny)), .t (.ints .i64 s), .t (.rows m)]), (1, .ints 3 .i64 (lostRow s m p nx ny i (lostTo s m p nx ny i) k))], 2⟩ : St)) (fun k => k ≤ ny) (fun k => ny - k) 0 (Nat.zero_le _) none (by refine ⟨rfl, rfl, ?_, ?_⟩ <;> ((repeat' (first | exact trivial | exact rfl | refine And.intro ?_ ?_)) <;> (try ((conv => whnf); first | refine vint ?_ | refine vboo ?_ | refine rint ?_ | refine rrow ?_ | skip)) <;> (try first | omega | (simp; done) | ((repeat rw [flts_closed _ (by assumption)]); exact vws_closed _ (by assumption))))) (fun k hk => ?_)
    have hlen2 := lostRow_len s m p nx ny i (lostTo s m p nx ny i) k
    refine ⟨fun h2 => ?_, fun h2 => ?_⟩
    · have h2 := ltT h2
      have hlt := ix_lt h h2
      have hb := bitIx_eq hp nx i k
      have hrow : (m.getD (i * ny + k) []).length = 4 := h4 _ (getD_mem (by omega))
      conv => whnf
      rw [natMulAdd (by omega)]
      refine ADraw.std tyOk mx ⟨by kernel_rfl, i * ny + k, rfl, by omega, ?_⟩
      conv => whnf
      refine ⟨fun h5 => ?_, fun h5 => ?_⟩
      · conv => whnf
        refine ⟨i * ny + k, rfl, by omega, i, rfl, by omega, nx + k, natAdd (by omega), by omega, bitIx p nx i k, hb.1, by omega, ?_⟩
        conv => whnf
        refine ⟨fun h6 => ?_, fun h6 => ?_⟩
        · have e : lostRow s m p nx ny i (lostTo s m p nx ny i) (k + 1) = lostRow s m p nx ny i (lostTo s m p nx ny i) k ++ [((i * ny + k : Nat) : Int)] := if_pos (by rw [lostC, h5, h6]; rfl)
          conv => whnf
          refine ⟨by simp [room]; omega, ?_⟩
          conv => whnf
          rw [nat_wrap (by omega)]
          refine ⟨k + 1, none, ?_, by omega, by omega⟩
          (refine ⟨rfl, rfl, ?_, ?_⟩ <;> ((repeat' (first | exact trivial | exact rfl | refine And.intro ?_ ?_)) <;> (try ((conv => whnf); first | refine vint ?_ | refine vboo ?_ | refine rint ?_ | refine rrow ?_ | skip)) <;> (try first | omega | (simp; done) | ((repeat rw [flts_closed _ (by assumption)]); exact vws_closed _ (by assumption)))))
          exact e.symm
        · have e : lostRow s m p nx ny i (lostTo s m p nx ny i) (k + 1) = lostRow s m p nx ny i (lostTo s m p nx ny i) k := if_neg (by rw [lostC, h6, Bool.and_false]; simp)
          conv => whnf
          rw [nat_wrap (by omega)]
          refine ⟨k + 1, none, ?_, by omega, by omega⟩
          dsimp only
          rw [e]
          (refine ⟨rfl, rfl, ?_, ?_⟩ <;> ((repeat' (first | exact trivial | exact rfl | refine And.intro ?_ ?_)) <;> (try ((conv => whnf); first | refine vint ?_ | refine vboo ?_ | refine rint ?_ | refine rrow ?_ | skip)) <;> (try first | omega | (simp; done) | ((repeat rw [flts_closed _ (by assumption)]); exact vws_closed _ (by assumption)))))
      · have e : lostRow s m p nx ny i (lostTo s m p nx ny i) (k + 1) = lostRow s m p nx ny i (lostTo s m p nx ny i) k := if_neg (by rw [lostC, h5, Bool.false_and]; simp)
        (repeat (conv => whnf); (first | refine ⟨fun h => absurd h (by decide), fun _ => ?_⟩ | refine ⟨fun _ => ?_, fun h => absurd h (by decide)⟩)); conv => whnf
        rw [nat_wrap (by omega)]
        refine ⟨k + 1, none, ?_, by omega, by omega⟩
        dsimp only
        rw [e]
        (refine ⟨rfl, rfl, ?_, ?_⟩ <;> ((repeat' (first | exact trivial | exact rfl | refine And.intro ?_ ?_)) <;> (try ((conv => whnf); first | refine vint ?_ | refine vboo ?_ | refine rint ?_ | refine rrow ?_ | skip)) <;> (try first | omega | (simp; done) | ((repeat rw [flts_closed _ (by assumption)]); exact vws_closed _ (by assumption)))))
    · have h2 := ltF h2
      obtain rfl : k = ny := by omega
      conv => whnf
      rw [nat_wrap (by omega)]
      exact ⟨i + 1, none, (by refine ⟨rfl, rfl, ?_, ?_⟩ <;> ((repeat' (first | exact trivial | exact rfl | refine And.intro ?_ ?_)) <;> (try ((conv => whnf); first | refine vint ?_ | refine vboo ?_ | refine rint ?_ | refine rrow ?_ | skip)) <;> (try first | omega | (simp; done) | ((repeat rw [flts_closed _ (by assumption)]); exact vws_closed _ (by assumption))))), by omega, by omega⟩
  · have h := ltF h
    obtain rfl : i = nx := by omega
    conv => whnf
    exact ⟨rfl, rfl⟩

def lostRes (x y : Int) (s : List Int) (m : List (List Int)) (p : List Int) : List Int := if isGP x y s m p then lostTo s m p x.toNat y.toNat x.toNat else []

theorem LostPairs_s (x y : Int) (s : List Int) (m : List (List Int)) (_hx : InR x) (_hy : InR y) (_hs : OkI s) (_hm : OkM m) (ks : SzI s) (km : SzM m) (p : List Int) (_hp : OkI p) (kp : SzI p) :
    FSpec Try.prog 86 [.ag [.c (.int .i64 (x)), .c (.int .i64 (y)), .t (.ints .i64 s), .t (.rows m)], .t (.ints .i64 p)] (ex (.tu [.own 0, .c (.bool (isGP x y s m p))]) [(0, .ints 3 .i64 (lostRes x y s m p))]) := by
  refine fspec tyOk mx Try.func86 rfl (by kernel_rfl) rfl ?_
  conv => whnf
  refine ACall.use (l4Played_spec x y s m p ks km kp) ?_
  conv => whnf
  refine ⟨fun h => ?_, fun h => ?_⟩
  · have h : isGP x y s m p = false := by simpa using h
    conv => whnf
    refine ⟨?_, ?_⟩
    · rw [h]
    · rw [lostRes, h]; rfl
  · have h : isGP x y s m p = true := by simpa using h
    have h' := h
    obtain ⟨nx, ny, rfl, rfl, g1, g2, g3, g4, g5, g6, g7, g8, g9, g10, g11, g12⟩ := isGP_spec h
    conv => whnf
    refine aloopI tyOk mx (fun i : Nat => (⟨66, [(1, .t (.ints .i64 p)), (2, .ptr 0 0), (6, .own 1), (7, .c (.int .i64 (i)))], [(0, .cells 84 [.c (.int .i64 (nx)), .c (.int .i64 (ny)), .t (.ints .i64 s), .t (.rows m)]), (1, .ints 3 .i64 (lostTo s m p nx ny i))], 2⟩ : St)) (fun i => i ≤ nx) (fun i => nx - i) 0 (Nat.zero_le _) none (by refine ⟨rfl, rfl, ?_, ?_⟩ <;> ((repeat' (first | exact trivial | exact rfl | refine And.intro ?_ ?_)) <;> (try ((conv => whnf); first | refine vint ?_ | refine vboo ?_ | refine rint ?_ | refine rrow ?_ | skip)) <;> (try first | omega | (simp; done) | ((repeat rw [flts_closed _ (by assumption)]); exact vws_closed _ (by assumption))))) (fun i hi => ?_)
    have hlen := lostTo_len s m p nx ny i
    have hin : i * ny ≤ 9 := Nat.le_trans (Nat.mul_le_mul_right ny hi) g7
    refine ⟨fun h => ?_, fun h => ?_⟩
    · have h := ltT h
      conv => whnf
      refine aloopI tyOk mx (fun k : Nat => (⟨66, [(1, .t (.ints .i64 p)), (2, .ptr 0 0), (6, .own 1), (7, .c (.int .i64 (i))), (8, .c (.int .i64 (k)))], [(0, .cells 84 [.c (.int .i64 (nx)), .c (.int .i64 (ny)), .t (.ints .i64 s), .t (.rows m)]), (1, .ints 3 .i64 (lostRow s m p nx ny i (lostTo s m p nx ny i) k))], 2⟩ : St)) (fun k => k ≤ ny) (fun k => ny - k) 0 (Nat.zero_le _) none (by refine ⟨rfl, rfl, ?_, ?_⟩ <;> ((repeat' (first | exact trivial | exact rfl | refine And.intro ?_ ?_)) <;> (try ((conv => whnf); first | refine vint ?_ | refine vboo ?_ | refine rint ?_ | refine rrow ?_ | skip)) <;> (try first | omega | (simp; done) | ((repeat rw [flts_closed _ (by assumption)]); exact vws_closed _ (by assumption))))) (fun k hk => ?_)
      have hlen2 := lostRow_len s m p nx ny i (lostTo s m p nx ny i) k
      refine ⟨fun h2 => ?_, fun h2 => ?_⟩
      · have h2 := ltT h2
        have hlt := ix_lt h h2
        have hb := bitIx_eq g12 nx i k
        have hrow : (m.getD (i * ny + k) []).length = 4 := (g10 _ (getD_mem (by omega))).1
        have hs1 := g8 (s.getD (i * ny + k) 0) (getD_mem (by omega))
        have hw1 := (g10 (m.getD (i * ny + k) []) (getD_mem (by omega))).2 ((m.getD (i * ny + k) []).getD (bitIx p nx i k) 0) (getD_mem (by omega))
        refine ADraw.std tyOk mx ⟨by kernel_rfl, i * ny + k, natMulAdd (by omega), by omega, ?_⟩
        conv => whnf
        refine ⟨fun h5 => ?_, fun h5 => ?_⟩
        · conv => whnf
          refine ⟨i, rfl, by omega, nx + k, natAdd (by omega), by omega, ?_⟩
          conv => whnf
          refine QCall.use (l4Won_spec nx ny i k (bitIx p nx i k) s m _ _ (by omega) (by omega) (by omega) hb.1 (by omega)) ?_
          have hz : (W (s.getD (i * ny + k) 0 * (m.getD (i * ny + k) []).getD (bitIx p nx i k) 0) == 0) = ((m.getD (i * ny + k) []).getD (bitIx p nx i k) 0 == 0) := by
            have h5 := of_decide_eq_true h5
            have : (m.getD (i * ny + k) []).getD (bitIx p nx i k) 0 = 0 ∨ (m.getD (i * ny + k) []).getD (bitIx p nx i k) 0 = 1 := by omega
            rcases this with e | e <;> rw [e]
            · rw [Int.mul_zero]; rfl
            · rw [Int.mul_one, show W (s.getD (i * ny + k) 0) = s.getD (i * ny + k) 0 from w64 (by omega) (by omega)]
              have : s.getD (i * ny + k) 0 ≠ 0 := by omega
              rw [beq_eq_false_iff_ne.2 this]; rfl
          conv => whnf
          refine ⟨fun h6 => ?_, fun h6 => ?_⟩
          · rw [hz] at h6
            have e : lostRow s m p nx ny i (lostTo s m p nx ny i) (k + 1) = lostRow s m p nx ny i (lostTo s m p nx ny i) k ++ [((i * ny + k : Nat) : Int)] := if_pos (by rw [lostC, h5, h6]; rfl)
            conv => whnf
            rw [natMulAdd (by omega)]
            refine ⟨by simp [room]; omega, ?_⟩
            conv => whnf
            rw [nat_wrap (by omega)]
            refine ⟨k + 1, none, ?_, by omega, by omega⟩
            (refine ⟨rfl, rfl, ?_, ?_⟩ <;> ((repeat' (first | exact trivial | exact rfl | refine And.intro ?_ ?_)) <;> (try ((conv => whnf); first | refine vint ?_ | refine vboo ?_ | refine rint ?_ | refine rrow ?_ | skip)) <;> (try first | omega | (simp; done) | ((repeat rw [flts_closed _ (by assumption)]); exact vws_closed _ (by assumption)))))
            exact e.symm
          · rw [hz] at h6
            have e : lostRow s m p nx ny i (lostTo s m p nx ny i) (k + 1) = lostRow s m p nx ny i (lostTo s m p nx ny i) k := if_neg (by rw [lostC, h6, Bool.and_false]; simp)
            conv => whnf
            rw [nat_wrap (by omega)]
            refine ⟨k + 1, none, ?_, by omega, by omega⟩
            dsimp only
            rw [e]
            (refine ⟨rfl, rfl, ?_, ?_⟩ <;> ((repeat' (first | exact trivial | exact rfl | refine And.intro ?_ ?_)) <;> (try ((conv => whnf); first | refine vint ?_ | refine vboo ?_ | refine rint ?_ | refine rrow ?_ | skip)) <;> (try first | omega | (simp; done) | ((repeat rw [flts_closed _ (by assumption)]); exact vws_closed _ (by assumption)))))
        · have e : lostRow s m p nx ny i (lostTo s m p nx ny i) (k + 1) = lostRow s m p nx ny i (lostTo s m p nx ny i) k := if_neg (by rw [lostC, h5, Bool.false_and]; simp)
          (repeat (conv => whnf); (first | refine ⟨fun h => absurd h (by decide), fun _ => ?_⟩ | refine ⟨fun _ => ?_, fun h => absurd h (by decide)⟩)); conv => whnf
          rw [nat_wrap (by omega)]
          refine ⟨k + 1, none, ?_, by omega, by omega⟩
          dsimp only
          rw [e]
          (refine ⟨rfl, rfl, ?_, ?_⟩ <;> ((repeat' (first | exact trivial | exact rfl | refine And.intro ?_ ?_)) <;> (try ((conv => whnf); first | refine vint ?_ | refine vboo ?_ | refine rint ?_ | refine rrow ?_ | skip)) <;> (try first | omega | (simp; done) | ((repeat rw [flts_closed _ (by assumption)]); exact vws_closed _ (by assumption)))))
      · have h2 := ltF h2
        obtain rfl : k = ny := by omega
        conv => whnf
        rw [nat_wrap (by omega)]
        exact ⟨i + 1, none, (by refine ⟨rfl, rfl, ?_, ?_⟩ <;> ((repeat' (first | exact trivial | exact rfl | refine And.intro ?_ ?_)) <;> (try ((conv => whnf); first | refine vint ?_ | refine vboo ?_ | refine rint ?_ | refine rrow ?_ | skip)) <;> (try first | omega | (simp; done) | ((repeat rw [flts_closed _ (by assumption)]); exact vws_closed _ (by assumption))))), by omega, by omega⟩
    · have h := ltF h
      obtain rfl : i = nx := by omega
      conv => whnf
      refine ⟨?_, ?_⟩
      · rw [h']
      · rw [lostRes, h']; rfl

theorem LostPairs_i (x y : Int) (s : List Int) (m : List (List Int)) (_hx : InR x) (_hy : InR y) (_hs : OkI s) (_hm : OkM m) (ks : SzI s) (km : SzM m) (p : List Int) (_hp : OkI p) (kp : SzI p) :
    FSpec Try.prog 85 [.ag [.c (.int .i64 (x)), .c (.int .i64 (y)), .t (.ints .i64 s), .t (.rows m)], .t (.ints .i64 p)] (ex (.tu [.own 0, .c (.bool (isGP x y s m p))]) [(0, .ints 3 .i64 (lostRes x y s m p))]) := by
  refine view_ints ?_
  refine fspec tyOk mx Try.func85 rfl (by kernel_rfl) rfl ?_
  conv => whnf
  refine ACall.use (isGamePlay_spec x y s m p ks km kp) ?_
  conv => whnf
  refine ⟨fun h => ?_, fun h => ?_⟩
  · have h : isGP x y s m p = false := by simpa using h
    conv => whnf
    exact .inl ⟨h, rfl, rfl⟩
  · have h : isGP x y s m p = true := by simpa using h
    have h' := h
    obtain ⟨nx, ny, rfl, rfl, g1, g2, g3, g4, g5, g6, g7, g8, g9, g10, g11, g12⟩ := isGP_spec h
    conv => whnf
    refine ACall.use (lost_spec nx ny s m p g2 g4 g5 g6 (fun r hr => (g10 r hr).1) g12 g11) ?_
    conv => whnf
    exact .inr ⟨h', rfl, rfl⟩
theorem LostPairs_bd (x y : Int) (s : List Int) (m : List (List Int)) (_hx : InR x) (_hy : InR y) (_hs : OkI s) (_hm : OkM m) (_ks : SzI s) (_km : SzM m) (p : List Int) (_hp : OkI p) (_kp : SzI p) : (lostRes x y s m p).length ≤ 1000000 := by
  unfold lostRes
  split
  · rename_i h
    obtain ⟨nx, ny, rfl, rfl, g1, g2, g3, g4, g5, g6, g7, g8, g9, g10, g11, g12⟩ := isGP_spec h
    have := lostTo_len s m p nx ny nx
    simp only [Int.toNat_natCast]
    omega
  · simp
end Go.Proofs.Ytkomndcehdneaaa
/- Best plays: reference and program. -/
namespace Go.Aw
section
variable {P : Program}
/-- (slice, int, bool): nil, 0 where it is false -/
def nilOrN (ok : Bool) (r : ARow) (v : Int) : AVal → List (Nat × ARow) → Prop := fun x h =>
  (ok = false ∧ x = .tu [.c (.slice none 0 0), .c (.int .i64 (0)), .c (.bool false)] ∧ h = []) ∨ (ok = true ∧ x = .tu [.own 0, .c (.int .i64 (v)), .c (.bool true)] ∧ h = [(0, r)])
theorem view_intsN {f : FuncId} {args : List AVal} {ok : Bool} {e : Nat} {k : IntKind} {l : List Int} {v : Int} (h : FSpec P f args (nilOrN ok (.ints e k l) v)) :
    FSpec P f args (ex (.tu [.own 0, .c (.int .i64 (if ok then v else 0)), .c (.bool ok)]) [(0, .ints e k (if ok then l else []))]) := by
  refine FSpec.view h ?_
  rintro x hr (⟨rfl, rfl, rfl⟩ | ⟨rfl, rfl, rfl⟩)
  · exact ⟨[(0, .nil)], .tu [.own 0, .c (.int .i64 (0)), .c (.bool false)], [(0, .ints e k [])], rfl, ⟨rfl, trivial, trivial⟩, ⟨⟨rfl, rfl, rfl⟩, rfl, rfl, trivial⟩, rfl, rfl⟩
  · exact ⟨[(0, .row 0)], .tu [.own 0, .c (.int .i64 (v)), .c (.bool true)], [(0, .ints e k l)], rfl, ⟨rfl, rfl, trivial⟩, ⟨⟨rfl, rfl⟩, rfl, rfl, trivial⟩, rfl, rfl⟩
end
theorem getD_bd {l : List Int} {b : Int} (hb : 0 ≤ b) (h : ∀ v, v ∈ l → 0 ≤ v ∧ v ≤ b) (i : Nat) : 0 ≤ l.getD i 0 ∧ l.getD i 0 ≤ b := by
  by_cases hi : i < l.length
  · exact h _ (by rw [List.getD_eq_getElem?_getD, List.getElem?_eq_getElem hi]; exact List.getElem_mem _)
  · rw [List.getD_eq_getElem?_getD, List.getElem?_eq_none (by omega)]; exact ⟨Int.le_refl _, hb⟩
theorem won_cases {s : List Int} {m : List (List Int)} {p : List Int} (hs : ∀ v, v ∈ s → 0 ≤ v ∧ v ≤ 99) (hm : ∀ r, r ∈ m → r.length = 4 ∧ ∀ v, v ∈ r → 0 ≤ v ∧ v ≤ 1) (nx ny i k : Nat) :
    ((m.getD (i * ny + k) []).getD (bitIx p nx i k) 0 = 0 ∧ wonAt s m p nx ny i k = 0) ∨ ((m.getD (i * ny + k) []).getD (bitIx p nx i k) 0 ≠ 0 ∧ wonAt s m p nx ny i k = s.getD (i * ny + k) 0) := by
  have h1 := getD_bd (by omega) hs (i * ny + k)
  have h2 : 0 ≤ (m.getD (i * ny + k) []).getD (bitIx p nx i k) 0 ∧ (m.getD (i * ny + k) []).getD (bitIx p nx i k) 0 ≤ 1 := by
    by_cases hi : i * ny + k < m.length
    · exact getD_bd (by omega) (hm _ (by rw [List.getD_eq_getElem?_getD, List.getElem?_eq_getElem hi]; exact List.getElem_mem _)).2 _
    · have : m.getD (i * ny + k) [] = [] := by rw [List.getD_eq_getElem?_getD, List.getElem?_eq_none (by omega)]; rfl
      rw [this]; simp
  have h3 : (m.getD (i * ny + k) []).getD (bitIx p nx i k) 0 = 0 ∨ (m.getD (i * ny + k) []).getD (bitIx p nx i k) 0 = 1 := by omega
  rcases h3 with h3 | h3
  · exact .inl ⟨h3, by rw [wonAt, h3, Int.mul_zero]; rfl⟩
  · exact .inr ⟨by omega, by rw [wonAt, h3, Int.mul_one]; exact w64 (by omega) (by omega)⟩
def totRow (s : List Int) (ny i : Nat) (a : Int) (n : Nat) : Int := fo (fun a k => W (a + s.getD (i * ny + k) 0)) a n
def totTo (s : List Int) (ny n : Nat) : Int := fo (fun a i => totRow s ny i a ny) 0 n
theorem totRow_flat (s : List Int) (ny i : Nat) : ∀ k, totRow s ny i (sumF s (i * ny)) k = sumF s (i * ny + k)
  | 0 => rfl
  | k + 1 => by
    show W (totRow s ny i (sumF s (i * ny)) k + s.getD (i * ny + k) 0) = W (sumF s (i * ny + k) + s.getD (i * ny + k) 0)
    rw [totRow_flat s ny i k]
theorem totTo_flat (s : List Int) (ny : Nat) : ∀ n, totTo s ny n = sumF s (n * ny)
  | 0 => by rw [Nat.zero_mul]; rfl
  | n + 1 => by
    show totRow s ny n (totTo s ny n) ny = _
    rw [totTo_flat s ny n, totRow_flat, Nat.succ_mul]
theorem row_cmp {s : List Int} {m : List (List Int)} {p : List Int} (hs : ∀ v, v ∈ s → 0 ≤ v ∧ v ≤ 99) (hm : ∀ r, r ∈ m → r.length = 4 ∧ ∀ v, v ∈ r → 0 ≤ v ∧ v ≤ 1) (nx ny i : Nat) {a t : Int} {l : List Int}
    (h0 : 0 ≤ a) (h1 : a ≤ t) (h2 : t ≤ 100000) (h3 : a = t ↔ l = []) : ∀ n, n ≤ 1000 → 0 ≤ scoreRow s m p nx ny i a n ∧ scoreRow s m p nx ny i a n ≤ totRow s ny i t n ∧ totRow s ny i t n ≤ t + 99 * n ∧
      (scoreRow s m p nx ny i a n = totRow s ny i t n ↔ lostRow s m p nx ny i l n = [])
  | 0, _ => by
    refine ⟨h0, h1, ?_, h3⟩
    show t ≤ t + 99 * ((0 : Nat) : Int)
    omega
  | n + 1, hn => by
    obtain ⟨i0, i1, i2, i3⟩ := row_cmp (p := p) hs hm nx ny i h0 h1 h2 h3 n (by omega)
    have hw := won_cases (p := p) hs hm nx ny i n
    have hb := getD_bd (by omega) hs (i * ny + n)
    have e1 : scoreRow s m p nx ny i a (n + 1) = scoreRow s m p nx ny i a n + wonAt s m p nx ny i n := by
      show W (scoreRow s m p nx ny i a n + wonAt s m p nx ny i n) = _
      exact w64 (by rcases hw with ⟨_, e⟩ | ⟨_, e⟩ <;> omega) (by rcases hw with ⟨_, e⟩ | ⟨_, e⟩ <;> omega)
    have e2 : totRow s ny i t (n + 1) = totRow s ny i t n + s.getD (i * ny + n) 0 := by
      show W (totRow s ny i t n + s.getD (i * ny + n) 0) = _
      exact w64 (by omega) (by omega)
    have e3 : lostRow s m p nx ny i l (n + 1) = if lostC s m p nx ny i n then lostRow s m p nx ny i l n ++ [((i * ny + n : Nat) : Int)] else lostRow s m p nx ny i l n := rfl
    rw [e1, e2, e3]
    rcases hw with ⟨hz, e⟩ | ⟨hz, e⟩
    · by_cases hpos : s.getD (i * ny + n) 0 > 0
      · have hc : lostC s m p nx ny i n = true := by rw [lostC, hz, decide_eq_true hpos]; rfl
        rw [hc, if_pos rfl]
        refine ⟨by omega, by omega, by omega, ⟨fun h => by omega, fun h => by simp at h⟩⟩
      · have hc : lostC s m p nx ny i n = false := by rw [lostC, decide_eq_false hpos]; rfl
        rw [hc, if_neg (by simp)]
        exact ⟨by omega, by omega, by omega, ⟨fun h => i3.1 (by omega), fun h => by have := i3.2 h; omega⟩⟩
    · have hc : lostC s m p nx ny i n = false := by rw [lostC, beq_eq_false_iff_ne.2 hz, Bool.and_false]
      rw [hc, if_neg (by simp)]
      exact ⟨by omega, by omega, by omega, ⟨fun h => i3.1 (by omega), fun h => by have := i3.2 h; omega⟩⟩
theorem to_cmp {s : List Int} {m : List (List Int)} {p : List Int} (hs : ∀ v, v ∈ s → 0 ≤ v ∧ v ≤ 99) (hm : ∀ r, r ∈ m → r.length = 4 ∧ ∀ v, v ∈ r → 0 ≤ v ∧ v ≤ 1) (nx ny : Nat) (hy : ny ≤ 3) : ∀ n, n ≤ 3 →
      0 ≤ scoreTo s m p nx ny n ∧ scoreTo s m p nx ny n ≤ totTo s ny n ∧ totTo s ny n ≤ 300 * n ∧ (scoreTo s m p nx ny n = totTo s ny n ↔ lostTo s m p nx ny n = [])
  | 0, _ => by simp [scoreTo, totTo, lostTo, fo]
  | n + 1, hn => by
    obtain ⟨i0, i1, i2, i3⟩ := to_cmp (p := p) hs hm nx ny hy n (by omega)
    obtain ⟨j0, j1, j2, j3⟩ := row_cmp (p := p) hs hm nx ny n i0 i1 (by omega) i3 ny (by omega)
    have e1 : scoreTo s m p nx ny (n + 1) = scoreRow s m p nx ny n (scoreTo s m p nx ny n) ny := rfl
    have e2 : totTo s ny (n + 1) = totRow s ny n (totTo s ny n) ny := rfl
    have e3 : lostTo s m p nx ny (n + 1) = lostRow s m p nx ny n (lostTo s m p nx ny n) ny := rfl
    rw [e1, e2, e3]
    exact ⟨j0, j1, by omega, j3⟩
def scF (s : List Int) (m : List (List Int)) (nx ny : Nat) (i : Nat) : Int := scoreTo s m ((playsL (nx + ny)).getD i []) nx ny nx
def bestI (s : List Int) (m : List (List Int)) (nx ny : Nat) : Nat := bIx (scF s m nx ny) (2 ^ (nx + ny) - 1)
def bestPl (s : List Int) (m : List (List Int)) (nx ny : Nat) : List Int := (playsL (nx + ny)).getD (bestI s m nx ny) []
theorem bestI_lt (s : List Int) (m : List (List Int)) (nx ny : Nat) : bestI s m nx ny < (playsL (nx + ny)).length := by
  have := bIx_le (scF s m nx ny) (2 ^ (nx + ny) - 1)
  have h2 : 0 < 2 ^ (nx + ny) := Nat.pow_pos (by omega)
  rw [playsL_len]
  unfold bestI
  omega
end Go.Aw
namespace Go.Proofs.Ytkomndcehdneaaa
open Go.Aw
set_option maxRecDepth 100000
set_option maxHeartbeats 4000000


def bpRow (x y : Int) (s : List Int) (m : List (List Int)) : List Int := if goodG x y s m then bestPl s m x.toNat y.toNat else []
def bpVal (x y : Int) (s : List Int) (m : List (List Int)) : Int := if goodG x y s m then scF s m x.toNat y.toNat (bestI s m x.toNat y.toNat) else 0
theorem best_bits {nx ny : Nat} (s : List Int) (m : List (List Int)) (h : nx + ny ≤ 6) : (bestPl s m nx ny).length = nx + ny ∧ ∀ v, v ∈ bestPl s m nx ny → 0 ≤ v ∧ v ≤ 1 :=
  playsL_row h (bestI_lt s m nx ny)



def cntTo (f : Nat → Bool) (n : Nat) : Int := fo (fun c i => if f i then W (c + 1) else c) 0 n
def cbF (s : List Int) (m : List (List Int)) (nx ny : Nat) (i : Nat) : Bool := scF s m nx ny i == scF s m nx ny (bestI s m nx ny)
def cbVal (x y : Int) (s : List Int) (m : List (List Int)) : Int := if goodG x y s m then cntTo (cbF s m x.toNat y.toNat) (2 ^ (x.toNat + y.toNat)) else 0

end Go.Proofs.Ytkomndcehdneaaa
/- Perfect plays, scores of boxes: reference and program. -/
namespace Go.Proofs.Ytkomndcehdneaaa
open Go.Aw
set_option maxRecDepth 100000
set_option maxHeartbeats 4000000


/-- a game and a box with as many questions -/
def gbOk (x y : Int) (s : List Int) (m : List (List Int)) (bx by' bz : Int) (bm : List (List Int)) : Bool := goodG x y s m && goodB bx by' bz bm && decide (bx = x) && decide (by' = y)
def gbV (x y : Int) (s : List Int) (m : List (List Int)) (bx by' bz : Int) (bm : List (List Int)) : Int := if gbOk x y s m bx by' bz bm then worthF (funG s m) bm else 0
theorem funG_rows {s : List Int} {m : List (List Int)} (h4 : ∀ r, r ∈ m → r.length = 4) : ∀ r, r ∈ funG s m → r.length = 4 := fun r hr => by
  obtain ⟨i, hi, rfl⟩ := List.mem_map.1 hr
  rw [fnGRow, List.length_map]
  exact h4 _ (getD_mem (by simpa using hi))
theorem iBoxScore_spec (x y : Int) (s : List Int) (m : List (List Int)) (bx by' bz : Int) (bm : List (List Int)) (ks : SzI s) (km : SzM m) (kb : SzM bm) :
    FSpec Try.prog 77 [.ag [.c (.int .i64 (x)), .c (.int .i64 (y)), .t (.ints .i64 s), .t (.rows m)], .ag [.c (.int .i64 (bx)), .c (.int .i64 (by')), .c (.int .i64 (bz)), .t (.rows bm)]] (ex (.tu [.c (.int .i64 (gbV x y s m bx by' bz bm)), .c (.bool (gbOk x y s m bx by' bz bm))]) []) := by
  have no : gbOk x y s m bx by' bz bm = false → gbV x y s m bx by' bz bm = 0 := fun h => by rw [gbV, h]; rfl
  refine fspec tyOk mx Try.func77 rfl (by kernel_rfl) rfl ?_
  conv => whnf
  refine ACall.use (iIsGame_spec x y s m ks km) ?_
  conv => whnf
  refine ⟨fun h => ?_, fun h => ?_⟩
  · have h : goodG x y s m = true := by simpa using h
    conv => whnf
    refine ACall.use (IsBox_spec bx by' bz bm kb) ?_
    conv => whnf
    refine ⟨fun h2 => ?_, fun h2 => ?_⟩
    · have h2 : goodB bx by' bz bm = true := by simpa using h2
      conv => whnf
      refine ⟨fun h3 => ?_, fun h3 => ?_⟩
      · have h3 : bx = x := by simpa using h3
        conv => whnf
        refine ⟨fun h5 => ?_, fun h5 => ?_⟩
        · have h5 : ¬ by' = y := by simpa using h5
          have e : gbOk x y s m bx by' bz bm = false := by rw [gbOk, decide_eq_false h5, Bool.and_false]
          conv => whnf
          exact ⟨by rw [no e, e], rfl⟩
        · have h5 : by' = y := by simpa using h5
          subst h3; subst h5
          have e : gbOk bx by' s m bx by' bz bm = true := by rw [gbOk, h, h2]; simp
          obtain ⟨nx, ny, rfl, rfl, g1, g2, g3, g4, g5, g6, g7, g8, g9, g10⟩ := goodG_spec h
          obtain ⟨_, _, e1, e2, _, _, _, _, _, _, q7, q8, q9⟩ := goodB_spec h2
          obtain rfl := Int.ofNat_inj.1 e1
          obtain rfl := Int.ofNat_inj.1 e2
          have h4 : ∀ r, r ∈ m → r.length = 4 := fun r hr => (g10 r hr).1
          have hl : (funG s m).length = bm.length := by rw [q7, ← g6]; simp [funG]
          conv => whnf
          refine ADraw.plan tyOk mx (.q 0 (.q 2 (.q 3 (.last 1 (.last 4 (.q 5 (.q 6 (.done))))))) : Plan) (by kernel_rfl) ?_
          conv => whnf
          refine ACall.useR (functional_spec _ _ s m (by omega) (by omega) (fun r hr => by have := h4 r hr; omega)) ?_
          conv => whnf
          refine ACall.useR (worth_spec (funG s m) bm hl (by omega) (funG_rows h4) (fun r hr => (q9 r hr).1)) ?_
          conv => whnf
          exact ⟨by rw [gbV, e]; rfl, rfl⟩
      · have h3 : ¬ bx = x := by simpa using h3
        have e : gbOk x y s m bx by' bz bm = false := by rw [gbOk, decide_eq_false h3]; simp
        (repeat (conv => whnf); (first | refine ⟨fun h => absurd h (by decide), fun _ => ?_⟩ | refine ⟨fun _ => ?_, fun h => absurd h (by decide)⟩)); conv => whnf
        exact ⟨by rw [no e, e], rfl⟩
    · have h2 : goodB bx by' bz bm = false := by simpa using h2
      have e : gbOk x y s m bx by' bz bm = false := by rw [gbOk, h2]; simp
      (repeat (conv => whnf); (first | refine ⟨fun h => absurd h (by decide), fun _ => ?_⟩ | refine ⟨fun _ => ?_, fun h => absurd h (by decide)⟩)); conv => whnf
      exact ⟨by rw [no e, e], rfl⟩
  · have h : goodG x y s m = false := by simpa using h
    have e : gbOk x y s m bx by' bz bm = false := by rw [gbOk, h]; simp
    (repeat (conv => whnf); (first | refine ⟨fun h => absurd h (by decide), fun _ => ?_⟩ | refine ⟨fun _ => ?_, fun h => absurd h (by decide)⟩)); conv => whnf
    exact ⟨by rw [no e, e], rfl⟩
theorem BoxScore_s (x y : Int) (s : List Int) (m : List (List Int)) (_hx : InR x) (_hy : InR y) (_hs : OkI s) (_hm : OkM m) (ks : SzI s) (km : SzM m) (bx by' bz : Int) (bm : List (List Int)) (_hbx : InR bx) (_hby : InR by') (_hbz : InR bz) (_hbm : OkM bm) (kb : SzM bm) :
    FSpec Try.prog 78 [.ag [.c (.int .i64 (x)), .c (.int .i64 (y)), .t (.ints .i64 s), .t (.rows m)], .ag [.c (.int .i64 (bx)), .c (.int .i64 (by')), .c (.int .i64 (bz)), .t (.rows bm)]] (ex (.tu [.c (.int .i64 (gbV x y s m bx by' bz bm)), .c (.bool (gbOk x y s m bx by' bz bm))]) []) := by
  have no : gbOk x y s m bx by' bz bm = false → gbV x y s m bx by' bz bm = 0 := fun h => by rw [gbV, h]; rfl
  refine fspec tyOk mx Try.func78 rfl (by kernel_rfl) rfl ?_
  conv => whnf
  refine ACall.use (l4Game_spec x y s m ks km) ?_
  conv => whnf
  refine ⟨fun h => ?_, fun h => ?_⟩
  · have h : goodG x y s m = true := by simpa using h
    conv => whnf
    refine ACall.use (l2Box_spec bx by' bz bm kb) ?_
    conv => whnf
    refine ⟨fun h2 => ?_, fun h2 => ?_⟩
    · have h2 : goodB bx by' bz bm = true := by simpa using h2
      conv => whnf
      refine ⟨fun h3 => ?_, fun h3 => ?_⟩
      · have h3 : x = bx := by simpa using h3
        conv => whnf
        refine ⟨fun h5 => ?_, fun h5 => ?_⟩
        · have h5 : ¬ y = by' := by simpa using h5
          have e : gbOk x y s m bx by' bz bm = false := by rw [gbOk, decide_eq_false (show ¬ by' = y from fun e => h5 e.symm), Bool.and_false]
          conv => whnf
          exact ⟨by rw [no e, e], rfl⟩
        · have h5 : y = by' := by simpa using h5
          subst h3; subst h5
          have e : gbOk x y s m x y bz bm = true := by rw [gbOk, h, h2]; simp
          obtain ⟨nx, ny, rfl, rfl, g1, g2, g3, g4, g5, g6, g7, g8, g9, g10⟩ := goodG_spec h
          obtain ⟨_, _, e1, e2, _, _, _, _, _, _, q7, q8, q9⟩ := goodB_spec h2
          obtain rfl := Int.ofNat_inj.1 e1
          obtain rfl := Int.ofNat_inj.1 e2
          have h4 : ∀ r, r ∈ m → r.length = 4 := fun r hr => (g10 r hr).1
          have hl : (funG s m).length = bm.length := by rw [q7, ← g6]; simp [funG]
          conv => whnf
          refine ADraw.plan tyOk mx (.q 0 (.q 2 (.last 1 (.last 3 (.q 4 (.q 5 (.done)))))) : Plan) (by kernel_rfl) ?_
          conv => whnf
          refine ACall.useR (l4Functional_spec _ _ s m (by omega) (by omega) h4) ?_
          conv => whnf
          refine ACall.useR (l2Worth_spec (funG s m) bm _ _ bz hl (by omega) (funG_rows h4) (fun r hr => (q9 r hr).1)) ?_
          conv => whnf
          exact ⟨by rw [gbV, e]; rfl, rfl⟩
      · have h3 : ¬ x = bx := by simpa using h3
        have e : gbOk x y s m bx by' bz bm = false := by rw [gbOk, decide_eq_false (show ¬ bx = x from fun e => h3 e.symm)]; simp
        (repeat (conv => whnf); (first | refine ⟨fun h => absurd h (by decide), fun _ => ?_⟩ | refine ⟨fun _ => ?_, fun h => absurd h (by decide)⟩)); conv => whnf
        exact ⟨by rw [no e, e], rfl⟩
    · have h2 : goodB bx by' bz bm = false := by simpa using h2
      have e : gbOk x y s m bx by' bz bm = false := by rw [gbOk, h2]; simp
      (repeat (conv => whnf); (first | refine ⟨fun h => absurd h (by decide), fun _ => ?_⟩ | refine ⟨fun _ => ?_, fun h => absurd h (by decide)⟩)); conv => whnf
      exact ⟨by rw [no e, e], rfl⟩
  · have h : goodG x y s m = false := by simpa using h
    have e : gbOk x y s m bx by' bz bm = false := by rw [gbOk, h]; simp
    (repeat (conv => whnf); (first | refine ⟨fun h => absurd h (by decide), fun _ => ?_⟩ | refine ⟨fun _ => ?_, fun h => absurd h (by decide)⟩)); conv => whnf
    exact ⟨by rw [no e, e], rfl⟩
theorem BoxScore_i (x y : Int) (s : List Int) (m : List (List Int)) (_hx : InR x) (_hy : InR y) (_hs : OkI s) (_hm : OkM m) (ks : SzI s) (km : SzM m) (bx by' bz : Int) (bm : List (List Int)) (_hbx : InR bx) (_hby : InR by') (_hbz : InR bz) (_hbm : OkM bm) (kb : SzM bm) :
    FSpec Try.prog 77 [.ag [.c (.int .i64 (x)), .c (.int .i64 (y)), .t (.ints .i64 s), .t (.rows m)], .ag [.c (.int .i64 (bx)), .c (.int .i64 (by')), .c (.int .i64 (bz)), .t (.rows bm)]] (ex (.tu [.c (.int .i64 (gbV x y s m bx by' bz bm)), .c (.bool (gbOk x y s m bx by' bz bm))]) []) := iBoxScore_spec x y s m bx by' bz bm ks km kb
end Go.Proofs.Ytkomndcehdneaaa
/- Scores of boxes: what the law asks, in plain terms. -/
namespace Go.Proofs.Ytkomndcehdneaaa
open Go.Aw
set_option maxRecDepth 100000
set_option maxHeartbeats 4000000

theorem W_mod (x : Int) : ∃ k : Int, W x = x + 18446744073709551616 * k := by
  rw [Wexp]
  exact ⟨-((x + 9223372036854775808) / 18446744073709551616), by omega⟩
theorem W_of_mod {x y k : Int} (h : x = y + 18446744073709551616 * k) : W x = W y := by
  simp only [Wexp]
  rw [h]
  omega
theorem Wm (c x : Int) : W (c * W x) = W (c * x) := by
  obtain ⟨k, e⟩ := W_mod x
  refine W_of_mod (k := c * k) ?_
  rw [e, Int.mul_add, Int.mul_left_comm]

/-- rows that are c times as great -/
theorem wRow_scale {f a b : List (List Int)} {i : Nat} {c : Int} : ∀ n, (∀ k, k < n → (b.getD i []).getD k 0 = c * (a.getD i []).getD k 0) → ∀ A : Int, W (c * wRow f a i A n) = wRow f b i (W (c * A)) n
  | 0, _, A => rfl
  | n + 1, h, A => by
    have ih := wRow_scale (f := f) n (fun k hk => h k (by omega)) A
    show W (c * W (wRow f a i A n + W ((f.getD i []).getD n 0 * (a.getD i []).getD n 0))) = W (wRow f b i (W (c * A)) n + W ((f.getD i []).getD n 0 * (b.getD i []).getD n 0))
    rw [← ih, h n (by omega), Wm, Wl, Wr, Int.mul_add, Int.mul_left_comm]
    generalize c * wRow f a i A n = X
    obtain ⟨k, e⟩ := W_mod ((f.getD i []).getD n 0 * (a.getD i []).getD n 0)
    rw [e, Int.mul_add]
    refine W_of_mod (k := c * k) ?_
    rw [Int.mul_left_comm c 18446744073709551616 k, Int.mul_left_comm c]; omega
theorem wTo_scale {f a b : List (List Int)} {c : Int} : ∀ n, (∀ i k, i < n → k < 4 → (b.getD i []).getD k 0 = c * (a.getD i []).getD k 0) → W (c * wTo f a n) = wTo f b n
  | 0, _ => by show W (c * 0) = 0; rw [Int.mul_zero]; rfl
  | n + 1, h => by
    have ih := wTo_scale (f := f) n fun i k hi hk => h i k (by omega) hk
    show W (c * wRow f a n (wTo f a n) 4) = wRow f b n (wTo f b n) 4
    rw [wRow_scale 4 (fun k hk => h n k (by omega) hk), ih]

/-- the entries of a play's box -/
theorem pg_ent {nx ny : Nat} {p : List Int} {w : Int} {i k : Nat} (hi : i < nx * ny) (hk : k < 4) : ((pgM p nx ny w).getD i []).getD k 0 = w * ((pgM p nx ny 1).getD i []).getD k 0 := by
  have hny : 0 < ny := by
    rcases Nat.eq_zero_or_pos ny with h | h
    · rw [h, Nat.mul_zero] at hi; omega
    · exact h
  have e1 : i = (i / ny) * ny + i % ny := by have := Nat.div_add_mod i ny; rw [Nat.mul_comm]; omega
  have hq : i / ny < nx := Nat.div_lt_of_lt_mul (by rw [Nat.mul_comm]; exact hi)
  have hr : i % ny < ny := Nat.mod_lt _ hny
  rw [e1, pgM, pgM, boxRows_row _ _ _ hq hr, boxRows_row _ _ _ hq hr]
  have : k = 0 ∨ k = 1 ∨ k = 2 ∨ k = 3 := by omega
  rcases this with rfl | rfl | rfl | rfl <;> simp only [boxRow, pgN, List.range, List.range.loop, List.map, List.getD_cons_zero, List.getD_cons_succ] <;> split <;> omega
theorem pg_worth {f : List (List Int)} {p : List Int} {nx ny : Nat} {w : Int} (hp : ∀ v, v ∈ p → 0 ≤ v ∧ v ≤ 1) : worthF f (pgM p nx ny w) = W (w * pwTo f p nx ny nx) := by
  rw [← pw_worth hp, worthF, worthF, pgM, pgM, boxRows_len, boxRows_len]
  exact (wTo_scale _ fun i k hi hk => pg_ent hi hk).symm

/-- the score of a play's box -/
theorem bs_play {x y : Int} {s : List Int} {m : List (List Int)} {p : List Int} {w : Int} (h : isGP x y s m p = true) (w1 : 1 ≤ w) (w2 : w ≤ 1000) :
    plOk x y p w = true ∧ gbOk x y s m x y w (plR x y p w) = true ∧ gbV x y s m x y w (plR x y p w) = W (w * psF x y s m p) := by
  have h0 := h
  have h1 := h
  rw [isGP, Bool.and_eq_true] at h1
  obtain ⟨nx, ny, rfl, rfl, x1, x3, y1, y3, l1, l2, l3, r1, r2, r3, l4, r4⟩ := isGP_spec h0
  have hs : szOk (nx : Int) (ny : Int) = true := by rw [szOk, Bool.and_eq_true]; exact ⟨inR_iff.2 (by omega), inR_iff.2 (by omega)⟩
  have hk : plOk (nx : Int) (ny : Int) p w = true := by rw [plOk, hs, pyB, h1.2, Bool.true_and, Bool.true_and]; exact inR_iff.2 ⟨w1, w2⟩
  have e : plR (nx : Int) (ny : Int) p w = pgM p nx ny w := by rw [plR, if_pos hk, Int.toNat_natCast, Int.toNat_natCast]
  have hg := pg_good x1 x3 y1 y3 r4 w1 w2
  have hb : gbOk (nx : Int) (ny : Int) s m nx ny w (plR (nx : Int) (ny : Int) p w) = true := by rw [gbOk, h1.1, e, hg]; simp
  refine ⟨hk, hb, ?_⟩
  rw [gbV, if_pos hb, e, pg_worth r4, psF, if_pos h, Int.toNat_natCast, Int.toNat_natCast, pw_score s m p nx ny r4 l2 (fun r hr => (r3 r hr).1)]

theorem funG_fn {x y : Int} {s : List Int} {m : List (List Int)} (h : goodG x y s m = true) : fnG x y (funG s m) = true := by
  have h0 := h
  obtain ⟨nx, ny, rfl, rfl, x1, x3, y1, y3, l1, l2, l3, r1, r2, r3⟩ := goodG_spec h0
  have hs : szOk (nx : Int) (ny : Int) = true := by rw [szOk, Bool.and_eq_true]; exact ⟨inR_iff.2 (by omega), inR_iff.2 (by omega)⟩
  rw [fnG, hs, Bool.true_and, Bool.and_eq_true, decide_eq_true_eq, List.all_eq_true]
  refine ⟨by simp only [funG, List.length_map, List.length_range, l2]; exact Int.natCast_mul _ _, fun r hr => ?_⟩
  obtain ⟨i, hi, rfl⟩ := List.mem_map.1 hr
  have hi := List.mem_range.1 hi
  obtain ⟨q1, q2⟩ := r3 _ (getD_mem (d := []) hi)
  rw [fnRow, Bool.and_eq_true, decide_eq_true_eq]
  refine ⟨by rw [fnGRow, List.length_map]; exact q1, rowIn_iff.2 fun v hv => ?_⟩
  obtain ⟨w, hw, rfl⟩ := List.mem_map.1 hv
  have hw := q2 w hw
  have hsi := r1 _ (getD_mem (d := 0) (show i < s.length by omega))
  have : w = 0 ∨ w = 1 := by omega
  rcases this with rfl | rfl
  · rw [Int.zero_mul]; show -99 ≤ (0 : Int) ∧ (0 : Int) ≤ 99; omega
  · rw [Int.one_mul, wS (by omega) (by omega)]; omega

/-- the score is the worth of the functional -/
theorem bs_worth {x y : Int} {s : List Int} {m : List (List Int)} {bx by' bz : Int} {bm : List (List Int)} (h : gbOk x y s m bx by' bz bm = true) :
    goodG x y s m = true ∧ goodB bx by' bz bm = true ∧ bx = x ∧ by' = y ∧ woOk bx by' bz bm (gfRes x y s m) = true ∧ woV bx by' bz bm (gfRes x y s m) = gbV x y s m bx by' bz bm := by
  have h0 := h
  simp only [gbOk, Bool.and_eq_true, decide_eq_true_eq] at h0
  obtain ⟨⟨⟨h1, h2⟩, rfl⟩, rfl⟩ := h0
  have e : gfRes bx by' s m = funG s m := if_pos h1
  have hw : woOk bx by' bz bm (gfRes bx by' s m) = true := by rw [woOk, e, h2, funG_fn h1]; rfl
  refine ⟨h1, h2, rfl, rfl, hw, ?_⟩
  rw [woV, if_pos hw, gbV, if_pos h, e]

/-- a box that is a play's: its score -/
theorem bs_told {x y : Int} {s : List Int} {m : List (List Int)} {bx by' bz : Int} {bm : List (List Int)} (h : gbOk x y s m bx by' bz bm = true) (hp : pfOk bx by' bz bm = true) :
    isGP x y s m (poV bx by' bz bm) = true ∧ W (psF x y s m (poV bx by' bz bm) * bz) = gbV x y s m bx by' bz bm := by
  obtain ⟨h1, h2, rfl, rfl, _, _⟩ := bs_worth h
  have h01 := pofL_01 h2
  have h2' := h2
  obtain ⟨nx, ny, rfl, rfl, g1, g2, g3, g4, g5, g6, g7, g8, g9⟩ := goodB_spec h2'
  have hl : (poV nx ny bz bm).length = nx + ny := by rw [poV, pofL_len, Int.toNat_natCast, Int.toNat_natCast]
  have hgp : isGP nx ny s m (poV nx ny bz bm) = true := by
    rw [isGP, h1, Bool.true_and, Bool.and_eq_true, decide_eq_true_eq]
    refine ⟨?_, rowIn_iff.2 h01⟩
    rw [hl, show W ((nx : Int) + (ny : Int)) = (nx : Int) + ny from w64 (by omega) (by omega)]; omega
  refine ⟨hgp, ?_⟩
  have hgp' := hgp
  obtain ⟨_, _, _, _, _, _, _, _, l1, l2, _, _, _, r3, _, _⟩ := isGP_spec hgp'
  rw [pfOk, h2, Bool.true_and, Int.toNat_natCast, Int.toNat_natCast] at hp
  generalize poV nx ny bz bm = p at h01 hl hgp hp
  have ent : ∀ i k, i < nx * ny → k < 4 → (bm.getD i []).getD k 0 = bz * ((pgM p nx ny 1).getD i []).getD k 0 := fun i k hi hk => by
    simp only [alkB, List.all_eq_true, List.mem_range, alkN, decide_eq_true_eq] at hp
    have e := hp i (by omega) k hk
    have v := good_val h2 (show i < bm.length by omega) hk
    have hg := pg_good g1 g2 g3 g4 h01 (w := 1) (by omega) (by omega)
    have u := good_val hg (show i < (pgM p nx ny 1).length by rw [pgM, boxRows_len]; exact hi) hk
    have : ((pgM p nx ny 1).getD i []).getD k 0 = 0 ∨ ((pgM p nx ny 1).getD i []).getD k 0 = 1 := by omega
    rw [Int.mul_one, wS (by omega) (by omega)] at e
    rcases this with q | q <;> rw [q] at e ⊢
    · rw [Int.zero_mul] at e; rw [e, Int.mul_zero]; rfl
    · rw [Int.one_mul, wS (by omega) (by omega)] at e; omega
  have m4 : ∀ r, r ∈ m → r.length = 4 := fun r hr => (r3 r hr).1
  have lm : m.length = nx * ny := by
    obtain ⟨a, b, e1, e2, _, _, _, _, _, l2, _⟩ := goodG_spec h1
    rw [l2, show a = nx by omega, show b = ny by omega]
  rw [gbV, if_pos h, psF, if_pos hgp, Int.toNat_natCast, Int.toNat_natCast, ← pw_score s m p nx ny h01 lm m4, ← pw_worth h01, worthF, worthF, g7, pgM, boxRows_len, Int.mul_comm]
  exact wTo_scale _ ent

/-- noise wins half -/
theorem bs_noise {x y : Int} {ws odd : List Int} (h : sgOk x y ws odd = true) :
    nzOk x y 1 = true ∧ goodG x y ws (winsOf odd) = true ∧ gbOk x y ws (winsOf odd) x y 4 (nzR x y 1) = true ∧ gbV x y ws (winsOf odd) x y 4 (nzR x y 1) = W (2 * sumF ws ws.length) := by
  have h0 := h
  simp only [sgOk, Bool.and_eq_true, decide_eq_true_eq] at h0
  obtain ⟨hs, hl, ho, hg⟩ := h0
  have hg0 := hg
  obtain ⟨nx, ny, rfl, rfl, x1, x3, y1, y3, l1, l2, l3, r1, r2, r3⟩ := goodG_spec hg0
  have hn : nzOk (nx : Int) (ny : Int) 1 = true := by rw [nzOk, hs]; rfl
  have e : nzR (nx : Int) (ny : Int) 1 = boxRows (fun _ _ _ _ => 1) nx ny := by rw [nzR, if_pos hn, Int.toNat_natCast, Int.toNat_natCast]
  have ent : ∀ i k, i < nx * ny → k < 4 → ((boxRows (fun _ _ _ _ => (1 : Int)) nx ny).getD i []).getD k 0 = 1 := fun i k hi hk => by
    have hny : 0 < ny := by omega
    have e1 : i = (i / ny) * ny + i % ny := by have := Nat.div_add_mod i ny; rw [Nat.mul_comm]; omega
    have hq : i / ny < nx := Nat.div_lt_of_lt_mul (by rw [Nat.mul_comm]; exact hi)
    have hr : i % ny < ny := Nat.mod_lt _ hny
    rw [e1, boxRows_row _ _ _ hq hr]
    have : k = 0 ∨ k = 1 ∨ k = 2 ∨ k = 3 := by omega
    rcases this with rfl | rfl | rfl | rfl <;> rfl
  have hb : goodB (nx : Int) (ny : Int) 4 (boxRows (fun _ _ _ _ => 1) nx ny) = true := by
    simp only [goodB, Bool.and_eq_true, decide_eq_true_eq, List.all_eq_true]
    refine ⟨⟨⟨hs, by decide⟩, by rw [boxRows_len]; exact Int.natCast_mul _ _⟩, fun r hr => ?_⟩
    rw [boxRows, List.mem_flatMap] at hr
    obtain ⟨i, _, hr⟩ := hr
    obtain ⟨k, _, rfl⟩ := List.mem_map.1 hr
    exact rowOk_mk (a := 1) (b := 1) (c := 1) (d := 1) (by omega) (by omega) (by omega) (by omega) (by omega) (by omega)
  have hgb : gbOk (nx : Int) (ny : Int) ws (winsOf odd) nx ny 4 (nzR (nx : Int) (ny : Int) 1) = true := by rw [gbOk, hg, e, hb]; simp
  refine ⟨hn, hg, hgb, ?_⟩
  rw [gbV, if_pos hgb, e, worthF, boxRows_len]
  have lo : odd.length = nx * ny := by
    have : (odd.length : Int) = ((nx * ny : Nat) : Int) := by rw [hl]; exact (Int.natCast_mul _ _).symm
    omega
  have key : ∀ n, n ≤ nx * ny → wTo (funG ws (winsOf odd)) (boxRows (fun _ _ _ _ => 1) nx ny) n = W (2 * sumF ws n) := fun n => by
    induction n with
    | zero => intro _; rfl
    | succ n ih =>
      intro hn
      have ih := ih (by omega)
      have hw : (winsOf odd).getD n [] = winR (odd.getD n 0) := by
        rw [winsOf, List.getD_eq_getElem?_getD, List.getElem?_map, List.getD_eq_getElem?_getD, List.getElem?_eq_getElem (show n < odd.length by omega)]; rfl
      have hf : (funG ws (winsOf odd)).getD n [] = (winR (odd.getD n 0)).map (fun w => W (w * ws.getD n 0)) := by
        rw [funG, range_getD (by rw [winsOf, List.length_map]; omega), fnGRow, hw]
      have ho1 := rowIn_iff.1 ho _ (getD_mem (d := 0) (show n < odd.length by omega))
      show wRow (funG ws (winsOf odd)) (boxRows (fun _ _ _ _ => 1) nx ny) n (wTo (funG ws (winsOf odd)) (boxRows (fun _ _ _ _ => 1) nx ny) n) 4 = W (2 * W (sumF ws n + ws.getD n 0))
      have e4 : ∀ (f m : List (List Int)) (A : Int), wRow f m n A 4 = W (W (W (W (A + W ((f.getD n []).getD 0 0 * (m.getD n []).getD 0 0)) + W ((f.getD n []).getD 1 0 * (m.getD n []).getD 1 0)) + W ((f.getD n []).getD 2 0 * (m.getD n []).getD 2 0)) + W ((f.getD n []).getD 3 0 * (m.getD n []).getD 3 0)) := fun _ _ _ => rfl
      rw [e4, ent n 0 (by omega) (by omega), ent n 1 (by omega) (by omega), ent n 2 (by omega) (by omega), ent n 3 (by omega) (by omega), ih, hf, Wm]
      generalize sumF ws n = S
      generalize ws.getD n 0 = t
      have : odd.getD n 0 = 0 ∨ odd.getD n 0 = 1 := by omega
      rcases this with q | q <;> rw [q] <;> simp only [winR, List.map, List.getD_cons_zero, List.getD_cons_succ, Int.mul_one] <;> simp only [Wl, Wr, WW]
      · have e1 : W (1 - 0) = 1 := rfl
        rw [e1]; simp only [Int.one_mul, Int.zero_mul, Int.add_zero]; congr 1; omega
      · have e1 : W (1 - 1) = 0 := rfl
        rw [e1]; simp only [Int.one_mul, Int.zero_mul, Int.add_zero]; congr 1; omega
  rw [key _ (Nat.le_refl _), l1]
end Go.Proofs.Ytkomndcehdneaaa
/- Draws of numbers of a list, of sizes. -/
namespace Go.Proofs.Ytkomndcehdneaaa
open Go.Aw
set_option maxRecDepth 100000

theorem l1MostC_spec (x y : Int) : FSpec Try.prog 165 [.c (.int .i64 (x)), .c (.int .i64 (y))] (ex (.c (.int .i64 (if x < y then y else x))) []) := by
  refine fspec tyOk mx Try.func165 rfl (by kernel_rfl) rfl ?_
  conv => whnf
  refine ⟨fun h => ?_, fun h => ?_⟩
  · have h := of_decide_eq_true h
    conv => whnf
    exact ⟨by first | rw [if_pos h] | rw [if_neg (by omega)], rfl⟩
  · have h := of_decide_eq_false h
    conv => whnf
    exact ⟨by first | rw [if_neg h] | (split <;> (first | rfl | (congr 2; omega))), rfl⟩
theorem l1LeastC_spec (x y : Int) : FSpec Try.prog 257 [.c (.int .i64 (x)), .c (.int .i64 (y))] (ex (.c (.int .i64 (if x < y then x else y))) []) := by
  refine fspec tyOk mx Try.func257 rfl (by kernel_rfl) rfl ?_
  conv => whnf
  refine ⟨fun h => ?_, fun h => ?_⟩
  · have h := of_decide_eq_true h
    conv => whnf
    exact ⟨by first | rw [if_pos h] | rw [if_neg (by omega)], rfl⟩
  · have h := of_decide_eq_false h
    conv => whnf
    exact ⟨by first | rw [if_neg h] | (split <;> (first | rfl | (congr 2; omega))), rfl⟩

/-- one of a list -/
def drawnC (code : List Int) (a : Nat) (lo hi : Int) (v : AVal) (r : ARow) : Prop :=
  ∃ (x : Int) (a' : Nat) (s' : Int), v = .c (.int .i64 x) ∧ lo ≤ x ∧ x ≤ hi ∧ a ≤ a' ∧ a' ≤ a + 2 ∧ r = cur code a' s'
theorem among_spec (code : List Int) (hc : OkB code) (a : Nat) (s : Int) (ha : a ≤ 900000000) (l : List Int) (hl : (Nat.ble 1 l.length && Nat.ble l.length 65536) = true) (lo hi : Int) (hin : rowIn l lo hi = true) :
    TSpec Try.prog 116 (cur code a s) [.ptr 0 0, .t (.ints .i64 l)] (drawnC code a lo hi) := by
  simp only [Bool.and_eq_true, Nat.ble_eq] at hl
  refine tspec tyOk mx Try.func116 rfl (by kernel_rfl) rfl rfl ?_
  conv => whnf
  refine ACallS.tmut 0 (pick_spec code hc a s ha l.length (by omega) (by omega)) ?_ rfl (by (repeat' (first | exact trivial | exact rfl | refine And.intro ?_ ?_)) <;> (try first | omega | (simp; done))) (by (repeat' (first | exact trivial | exact rfl | refine And.intro ?_ ?_)) <;> (try first | omega | (simp; done)))
  rintro v r ⟨x, a1, s1, rfl, x0, x1, e1, g1, rfl⟩
  conv => whnf
  obtain ⟨i, rfl, hi⟩ := nat_of (len := l.length) x0 (by omega)
  refine ⟨i, rfl, hi, ?_⟩
  conv => whnf
  have h := among_in hin hi
  exact ⟨_, a1, s1, rfl, h.1, h.2, e1, g1, rfl⟩

def near (x : Int) : Nat := (if x < 0 then 0 else if x < 4 then x else 4).toNat
theorem near_le (x : Int) : near x ≤ 4 := by unfold near; omega
theorem l2Near_spec (x : Int) : FSpec Try.prog 235 [.c (.int .i64 (x))] (ex (.c (.int .i64 (near x))) []) := by
  refine fspec tyOk mx Try.func235 rfl (by kernel_rfl) rfl ?_
  conv => whnf
  refine ACall.use (l1MostC_spec _ _) ?_
  conv => whnf
  refine ACall.use (l1LeastC_spec _ _) ?_
  conv => whnf
  refine ⟨?_, rfl⟩
  have e : (if (if x < 0 then 0 else x) < 4 then (if x < 0 then 0 else x) else 4) = (near x : Int) := by unfold near; omega
  rw [e]

/-- a drawn pair of numbers of questions -/
def drawn2 (code : List Int) (a k : Nat) (v : AVal) (r : ARow) : Prop :=
  ∃ (x y : Int) (a' : Nat) (s' : Int), v = .tu [.c (.int .i64 x), .c (.int .i64 y)] ∧ InR x ∧ InR y ∧ a ≤ a' ∧ a' ≤ a + k ∧ r = cur code a' s'

theorem sizes_spec (code : List Int) (hc : OkB code) (a : Nat) (s : Int) (ha : a ≤ 800000000) :
    TSpec Try.prog 136 (cur code a s) [.ptr 0 0] (drawn2 code a 8) := by
  refine tspec tyOk mx Try.func136 rfl (by kernel_rfl) rfl rfl ?_
  conv => whnf
  refine ACallS.tmut 0 (one_spec code hc a s (by omega) 2 (by omega) (by omega)) ?_ rfl (by (repeat' (first | exact trivial | exact rfl | refine And.intro ?_ ?_)) <;> (try first | omega | (simp; done))) (by (repeat' (first | exact trivial | exact rfl | refine And.intro ?_ ?_)) <;> (try first | omega | (simp; done)))
  rintro v r ⟨b1, a1, s1, rfl, e_a1, g_a1, rfl⟩
  conv => whnf
  refine ⟨fun h1 => ?_, fun h1 => ?_⟩
  · conv => whnf
    exact ⟨2, 2, a1, s1, rfl, by unfold InR; omega, by unfold InR; omega, by omega, by omega, rfl⟩
  · conv => whnf
    refine ACallS.tmut 0 (one_spec code hc a1 s1 (by omega) 24 (by omega) (by omega)) ?_ rfl (by (repeat' (first | exact trivial | exact rfl | refine And.intro ?_ ?_)) <;> (try first | omega | (simp; done))) (by (repeat' (first | exact trivial | exact rfl | refine And.intro ?_ ?_)) <;> (try first | omega | (simp; done)))
    rintro v r ⟨b2, a2, s2, rfl, e_a2, g_a2, rfl⟩
    conv => whnf
    refine ⟨fun h2 => ?_, fun h2 => ?_⟩
    · conv => whnf
      refine ACallS.inline tyOk mx Try.func116 rfl (by kernel_rfl) rfl ?_
      conv => whnf
      refine ACallS.tmut 0 (pick_spec code hc a2 s2 (by omega) 4 (by omega) (by omega)) ?_ rfl (by (repeat' (first | exact trivial | exact rfl | refine And.intro ?_ ?_)) <;> (try first | omega | (simp; done))) (by (repeat' (first | exact trivial | exact rfl | refine And.intro ?_ ?_)) <;> (try first | omega | (simp; done)))
      rintro v r ⟨y, a3, s3, rfl, y0, y1, e_a3, g_a3, rfl⟩
      conv => whnf
      obtain ⟨i, rfl, hi⟩ := nat_of (len := 4) y0 (by omega)
      refine ⟨i, rfl, hi, ?_⟩
      conv => whnf
      have h_x : -1 ≤ (((((List.replicate 4 (0 : Int)).set 0 0).set 1 4).set 2 (-1)).set 3 2).getD i 0 ∧ (((((List.replicate 4 (0 : Int)).set 0 0).set 1 4).set 2 (-1)).set 3 2).getD i 0 ≤ 4 := among_in (by kernel_rfl) hi
      generalize (((((List.replicate 4 (0 : Int)).set 0 0).set 1 4).set 2 (-1)).set 3 2).getD i 0 = x at h_x ⊢
      refine ⟨rfl, ?_⟩
      conv => whnf
      clear y0 y1 hi
      refine ACallS.inline tyOk mx Try.func116 rfl (by kernel_rfl) rfl ?_
      conv => whnf
      refine ACallS.tmut 0 (pick_spec code hc a3 s3 (by omega) 4 (by omega) (by omega)) ?_ rfl (by (repeat' (first | exact trivial | exact rfl | refine And.intro ?_ ?_)) <;> (try first | omega | (simp; done))) (by (repeat' (first | exact trivial | exact rfl | refine And.intro ?_ ?_)) <;> (try first | omega | (simp; done)))
      rintro v r ⟨y, a4, s4, rfl, y0, y1, e_a4, g_a4, rfl⟩
      conv => whnf
      obtain ⟨i, rfl, hi⟩ := nat_of (len := 4) y0 (by omega)
      refine ⟨i, rfl, hi, ?_⟩
      conv => whnf
      have h_y : 0 ≤ (((((List.replicate 4 (0 : Int)).set 0 0).set 1 4).set 2 2).set 3 4611686018427387904).getD i 0 ∧ (((((List.replicate 4 (0 : Int)).set 0 0).set 1 4).set 2 2).set 3 4611686018427387904).getD i 0 ≤ 4611686018427387904 := among_in (by kernel_rfl) hi
      generalize (((((List.replicate 4 (0 : Int)).set 0 0).set 1 4).set 2 2).set 3 4611686018427387904).getD i 0 = y at h_y ⊢
      refine ⟨rfl, ?_⟩
      conv => whnf
      clear y0 y1 hi
      exact ⟨x, y, a4, s4, rfl, by unfold InR; omega, by unfold InR; omega, by omega, by omega, rfl⟩
    · conv => whnf
      refine ACallS.tmut 0 (pick_spec code hc a2 s2 (by omega) 3 (by omega) (by omega)) ?_ rfl (by (repeat' (first | exact trivial | exact rfl | refine And.intro ?_ ?_)) <;> (try first | omega | (simp; done))) (by (repeat' (first | exact trivial | exact rfl | refine And.intro ?_ ?_)) <;> (try first | omega | (simp; done)))
      rintro v r ⟨x, a3, s3, rfl, l_x, u_x, e_a3, g_a3, rfl⟩
      conv => whnf
      refine ACallS.tmut 0 (pick_spec code hc a3 s3 (by omega) 3 (by omega) (by omega)) ?_ rfl (by (repeat' (first | exact trivial | exact rfl | refine And.intro ?_ ?_)) <;> (try first | omega | (simp; done))) (by (repeat' (first | exact trivial | exact rfl | refine And.intro ?_ ?_)) <;> (try first | omega | (simp; done)))
      rintro v r ⟨y, a4, s4, rfl, l_y, u_y, e_a4, g_a4, rfl⟩
      conv => whnf
      exact ⟨_, _, a4, s4, rfl, W_inr _, W_inr _, by omega, by omega, rfl⟩

end Go.Proofs.Ytkomndcehdneaaa
/- Draws of games. -/
namespace Go.Proofs.Ytkomndcehdneaaa
open Go.Aw
set_option maxRecDepth 100000
set_option maxHeartbeats 4000000

theorem cut34 {z : Int} (h0 : 0 ≤ z) (h1 : z < max 2 1) : ∃ h : Nat, IntKind.i64.wrap (3 + z) = h ∧ h ≤ 4 := ⟨(3 + z).toNat, by rw [w64 (by omega) (by omega)]; omega, by omega⟩
theorem in4 (z1 z2 z3 z4 : Int) (h1 : InR z1) (h2 : InR z2) (h3 : InR z3) (h4 : InR z4) : (((((List.replicate 4 (0 : Int)).set 0 z1).set 1 z2).set 2 z3).set 3 z4).length = 4 ∧ ∀ v, v ∈ ((((List.replicate 4 (0 : Int)).set 0 z1).set 1 z2).set 2 z3).set 3 z4 → InR v := by
  show [z1, z2, z3, z4].length = 4 ∧ ∀ v, v ∈ [z1, z2, z3, z4] → InR v
  refine ⟨rfl, fun v hv => ?_⟩
  simp only [List.mem_cons, List.not_mem_nil, or_false] at hv
  rcases hv with rfl | rfl | rfl | rfl
  · exact h1
  · exact h2
  · exact h3
  · exact h4
/-- a drawn game -/
def SmG (ws : List Int) (m : List (List Int)) : Prop := ws.length ≤ 16 ∧ (∀ v, v ∈ ws → InR v) ∧ m.length ≤ 16 ∧ ∀ r, r ∈ m → r.length ≤ 4 ∧ ∀ v, v ∈ r → InR v
def drawnG (code : List Int) (a k : Nat) (x y : Int) (v : AVal) (r : ARow) : Prop :=
  ∃ (ws : List Int) (m : List (List Int)) (a' : Nat) (s' : Int), v = .ag [.c (.int .i64 x), .c (.int .i64 y), .t (.ints .i64 ws), .t (.rows m)] ∧ SmG ws m ∧ a ≤ a' ∧ a' ≤ a + k ∧ r = cur code a' s'
abbrev g0 : ARow := .cells 84 [.c (.int .i64 (0)), .c (.int .i64 (0)), .c (.slice none 0 0), .c (.slice none 0 0)]

theorem gameOf_spec (code : List Int) (hc : OkB code) (a : Nat) (s : Int) (ha : a ≤ 700000000) (x y : Int) :
    TSpec Try.prog 197 (cur code a s) [.ptr 0 0, .c (.int .i64 (x)), .c (.int .i64 (y))] (drawnG code a 1000 x y) := by
  have nx := near_le x
  have ny := near_le y
  have nxy : near x * near y ≤ 4 * 4 := Nat.mul_le_mul nx ny
  generalize hN : near x * near y = N at nxy
  refine tspec tyOk mx Try.func197 rfl (by kernel_rfl) rfl rfl ?_
  conv => whnf
  refine ACallS.tmut 0 (one_spec code hc a s (by omega) 2 (by omega) (by omega)) ?_ rfl (by (repeat' (first | exact trivial | exact rfl | refine And.intro ?_ ?_)) <;> (try first | omega | (simp; done))) (by (repeat' (first | exact trivial | exact rfl | refine And.intro ?_ ?_)) <;> (try first | omega | (simp; done)))
  rintro v r ⟨sg, a1, s1, rfl, e_a1, g_a1, rfl⟩
  conv => whnf
  refine aloopI tyOk mx (fun i : List Int × List (List Int) × Nat × Int => (⟨107, [(0, .ptr 0 0), (1, .c (.int .i64 (x))), (2, .c (.int .i64 (y))), (6, .ptr 1 0), (7, .ptr 2 0), (8, .c (.bool sg)), (9, .c (.int .i64 (i.1.length))), (107, .ptr 0 0)], [(0, cur code i.2.2.1 i.2.2.2), (1, g0), (2, .cells 84 [.c (.int .i64 (x)), .c (.int .i64 (y)), .own 3, .own 4]), (3, .ints 3 .i64 i.1), (4, .rows 25 3 true i.2.1)], 5⟩ : St)) (fun i => i.1.length ≤ N ∧ i.2.1.length = i.1.length ∧ (∀ v, v ∈ i.1 → InR v) ∧ (∀ r, r ∈ i.2.1 → r.length = 4 ∧ ∀ v, v ∈ r → InR v) ∧ a ≤ i.2.2.1 ∧ i.2.2.1 ≤ a + 2 + 20 * i.1.length) (fun i => N - i.1.length) ([], [], a1, s1) ⟨by simp, by simp, by simp, by simp, by simp only; omega, by simp; omega⟩ (some [(0,.row 0),(1,.row 1),(2,.row 2),(3,.nil),(4,.nil)]) (by (refine ⟨rfl, rfl, ?_, ?_⟩ <;> ((repeat' (first | exact trivial | exact rfl | refine And.intro ?_ ?_)) <;> (try ((conv => whnf); first | refine vint ?_ | refine vboo ?_ | refine rint ?_ | refine rrow ?_ | skip)) <;> (try first | omega | (simp; done) | ((repeat rw [flts_closed _ (by assumption)]); exact vws_closed _ (by assumption)))))) (fun i hi => ?_)
  obtain ⟨ws, m, a2, s2⟩ := i
  obtain ⟨h1, h2, h3, h4, h5, h6⟩ := hi
  simp only at h1 h2 h3 h4 h5 h6
  dsimp only
  conv => whnf
  refine ACall.use (l2Near_spec _) ?_
  conv => whnf
  refine ACall.use (l2Near_spec _) ?_
  conv => whnf
  have eN : IntKind.i64.wrap ((near x : Int) * (near y : Int)) = (N : Int) := by rw [← Int.natCast_mul, hN]; exact w64 (by omega) (by omega)
  rw [eN]
  refine ⟨fun h => ?_, fun h => ?_⟩
  · have h := ltT h
    conv => whnf
    refine ADraw.midI (ι := Int × Nat × Int) (fun j => (⟨107, [(0, .ptr 0 0), (1, .c (.int .i64 (x))), (2, .c (.int .i64 (y))), (6, .ptr 1 0), (7, .ptr 2 0), (8, .c (.bool sg)), (9, .c (.int .i64 (ws.length))), (107, .ptr 0 0)], [(0, cur code j.2.1 j.2.2), (1, g0), (2, .cells 84 [.c (.int .i64 (x)), .c (.int .i64 (y)), .own 3, .own 4]), (3, .ints 3 .i64 (ws ++ [j.1])), (4, .rows 25 3 true m)], 5⟩ : St)) (fun j => InR j.1 ∧ a2 ≤ j.2.1 ∧ j.2.1 ≤ a2 + 2) (ADraw.planX [4] tyOk mx (.q 0 (.q 2 (.alt 1 (.last 3 (.inl 4 (.last 5 (.last 6 (.q 7 (.last 8 (.done))))))) (.last 3 (.alt 1 (.inl 4 (.last 5 (.last 6 (.q 7 (.last 8 (.done)))))) (.inl 4 (.alt 1 (.last 5 (.last 6 (.q 7 (.last 8 (.done))))) (.last 5 (.last 1 (.last 6 (.q 7 (.last 8 (.done)))))))))))) : Plan) (by kernel_rfl) ?_) ?_
    · conv => whnf
      repeat' (first
        | (refine ACallS.inline tyOk mx Try.func116 rfl (by kernel_rfl) rfl ?_; (conv => whnf); refine ACallS.tmut 0 (pick_spec code hc a2 s2 (by omega) 5 (by omega) (by omega)) ?_ rfl (by (repeat' (first | exact trivial | exact rfl | refine And.intro ?_ ?_)) <;> (try first | omega | (simp; done))) (by (repeat' (first | exact trivial | exact rfl | refine And.intro ?_ ?_)) <;> (try first | omega | (simp; done))); rintro v r ⟨y, a3, s3, rfl, y0, y1, e_a3, g_a3, rfl⟩; (conv => whnf); obtain ⟨i, rfl, hi⟩ := nat_of (len := 5) y0 (by omega); refine ⟨i, rfl, hi, ?_⟩; (conv => whnf); have h_z : 0 ≤ ((((((List.replicate 5 (0 : Int)).set 0 1).set 1 1).set 2 2).set 3 0).set 4 3).getD i 0 ∧ ((((((List.replicate 5 (0 : Int)).set 0 1).set 1 1).set 2 2).set 3 0).set 4 3).getD i 0 ≤ 3 := among_in (by kernel_rfl) hi; generalize ((((((List.replicate 5 (0 : Int)).set 0 1).set 1 1).set 2 2).set 3 0).set 4 3).getD i 0 = z at h_z ⊢; refine ⟨rfl, ?_⟩; (conv => whnf); clear y0 y1 hi)
        | (show ws.length + 1 ≤ room; unfold room; omega)
        | (refine ⟨(z, a3, s3), none, (by (refine ⟨rfl, rfl, ?_, ?_⟩ <;> ((repeat' (first | exact trivial | exact rfl | refine And.intro ?_ ?_)) <;> (try ((conv => whnf); first | refine vint ?_ | refine vboo ?_ | refine rint ?_ | refine rrow ?_ | skip)) <;> (try first | omega | (simp; done) | ((repeat rw [flts_closed _ (by assumption)]); exact vws_closed _ (by assumption)))))), ⟨by unfold InR; omega, e_a3, g_a3⟩⟩; done)
        | (refine And.intro ?_ ?_ <;> (conv => whnf)))
    · rintro ⟨z, a3, s3⟩ ⟨hz, e3, g3⟩
      simp only at hz e3 g3
      dsimp only
      conv => whnf
      have fin : ∀ (l : List Int) (a' : Nat) (s' : Int), (l.length = 4 ∧ ∀ v, v ∈ l → InR v) → a3 ≤ a' → a' ≤ a3 + 8 →
          (ws ++ [z], m ++ [l], a', s').1.length ≤ N ∧ (ws ++ [z], m ++ [l], a', s').2.1.length = (ws ++ [z], m ++ [l], a', s').1.length ∧ (∀ v, v ∈ (ws ++ [z], m ++ [l], a', s').1 → InR v) ∧
          (∀ r, r ∈ (ws ++ [z], m ++ [l], a', s').2.1 → r.length = 4 ∧ ∀ v, v ∈ r → InR v) ∧ a ≤ (ws ++ [z], m ++ [l], a', s').2.2.1 ∧ (ws ++ [z], m ++ [l], a', s').2.2.1 ≤ a + 2 + 20 * (ws ++ [z], m ++ [l], a', s').1.length := fun l a' s' hl l1 l2 => by
        simp only [List.length_append, List.length_singleton]
        refine ⟨by omega, by omega, fun v hv => ?_, fun r hr => ?_, by omega, by omega⟩
        · rcases List.mem_append.1 hv with h | h
          · exact h3 v h
          · rw [List.mem_singleton] at h; rw [h]; exact hz
        · rcases List.mem_append.1 hr with h | h
          · exact h4 r h
          · rw [List.mem_singleton] at h; rw [h]; exact hl
      have hroom : m.length + 1 ≤ room := by unfold room; omega
      have e1 : IntKind.i64.wrap ((ws.length : Int) + 1) = ((ws.length + 1 : Nat) : Int) := nat_wrap (by omega)
      refine ⟨fun hs => ?_, fun hs => ?_⟩
      · subst hs
        refine ACallS.tmut 0 (one_spec code hc a3 s3 (by omega) 3 (by omega) (by omega)) ?_ rfl (by (repeat' (first | exact trivial | exact rfl | refine And.intro ?_ ?_)) <;> (try first | omega | (simp; done))) (by (repeat' (first | exact trivial | exact rfl | refine And.intro ?_ ?_)) <;> (try first | omega | (simp; done)))
        rintro v r ⟨b, a4, s4, rfl, e_a4, g_a4, rfl⟩
        conv => whnf
        refine ⟨fun hb => ?_, fun hb => ?_⟩
        · conv => whnf
          (repeat (conv => whnf); (first | refine ⟨fun h => absurd h (by decide), fun _ => ?_⟩ | refine ⟨fun _ => ?_, fun h => absurd h (by decide)⟩)); conv => whnf
          refine ⟨hroom, ?_⟩
          conv => whnf
          rw [e1]
          refine ⟨(ws ++ [z], m ++ [_], a4, s4), none, (by refine ⟨rfl, rfl, ?_, ?_⟩ <;> ((repeat' (first | exact trivial | exact rfl | refine And.intro ?_ ?_)) <;> (try ((conv => whnf); first | refine vint ?_ | refine vboo ?_ | refine rint ?_ | refine rrow ?_ | skip)) <;> (try first | omega | (simp; done) | ((repeat rw [flts_closed _ (by assumption)]); exact vws_closed _ (by assumption))))), fin _ _ _ (in4 _ _ _ _ (by unfold InR; omega) (by unfold InR; omega) (by unfold InR; omega) (by unfold InR; omega)) (by omega) (by omega), by simp; omega⟩
        · conv => whnf
          (repeat (conv => whnf); (first | refine ⟨fun h => absurd h (by decide), fun _ => ?_⟩ | refine ⟨fun _ => ?_, fun h => absurd h (by decide)⟩)); conv => whnf
          refine ⟨hroom, ?_⟩
          conv => whnf
          rw [e1]
          refine ⟨(ws ++ [z], m ++ [_], a4, s4), none, (by refine ⟨rfl, rfl, ?_, ?_⟩ <;> ((repeat' (first | exact trivial | exact rfl | refine And.intro ?_ ?_)) <;> (try ((conv => whnf); first | refine vint ?_ | refine vboo ?_ | refine rint ?_ | refine rrow ?_ | skip)) <;> (try first | omega | (simp; done) | ((repeat rw [flts_closed _ (by assumption)]); exact vws_closed _ (by assumption))))), fin _ _ _ (in4 _ _ _ _ (by unfold InR; omega) (by unfold InR; omega) (by unfold InR; omega) (by unfold InR; omega)) (by omega) (by omega), by simp; omega⟩
      · subst hs
        (repeat (conv => whnf); (first | refine ⟨fun h => absurd h (by decide), fun _ => ?_⟩ | refine ⟨fun _ => ?_, fun h => absurd h (by decide)⟩)); conv => whnf
        refine ACallS.tmut 0 (pick_spec code hc a3 s3 (by omega) 2 (by omega) (by omega)) ?_ rfl (by (repeat' (first | exact trivial | exact rfl | refine And.intro ?_ ?_)) <;> (try first | omega | (simp; done))) (by (repeat' (first | exact trivial | exact rfl | refine And.intro ?_ ?_)) <;> (try first | omega | (simp; done)))
        rintro v r ⟨z1, a4, s4, rfl, l_z1, u_z1, e_a4, g_a4, rfl⟩
        conv => whnf
        refine ACallS.tmut 0 (pick_spec code hc a4 s4 (by omega) 2 (by omega) (by omega)) ?_ rfl (by (repeat' (first | exact trivial | exact rfl | refine And.intro ?_ ?_)) <;> (try first | omega | (simp; done))) (by (repeat' (first | exact trivial | exact rfl | refine And.intro ?_ ?_)) <;> (try first | omega | (simp; done)))
        rintro v r ⟨z2, a5, s5, rfl, l_z2, u_z2, e_a5, g_a5, rfl⟩
        conv => whnf
        refine ACallS.tmut 0 (pick_spec code hc a5 s5 (by omega) 2 (by omega) (by omega)) ?_ rfl (by (repeat' (first | exact trivial | exact rfl | refine And.intro ?_ ?_)) <;> (try first | omega | (simp; done))) (by (repeat' (first | exact trivial | exact rfl | refine And.intro ?_ ?_)) <;> (try first | omega | (simp; done)))
        rintro v r ⟨z3, a6, s6, rfl, l_z3, u_z3, e_a6, g_a6, rfl⟩
        conv => whnf
        refine ACallS.tmut 0 (pick_spec code hc a6 s6 (by omega) 2 (by omega) (by omega)) ?_ rfl (by (repeat' (first | exact trivial | exact rfl | refine And.intro ?_ ?_)) <;> (try first | omega | (simp; done))) (by (repeat' (first | exact trivial | exact rfl | refine And.intro ?_ ?_)) <;> (try first | omega | (simp; done)))
        rintro v r ⟨z4, a7, s7, rfl, l_z4, u_z4, e_a7, g_a7, rfl⟩
        conv => whnf
        refine ⟨hroom, ?_⟩
        conv => whnf
        rw [e1]
        refine ⟨(ws ++ [z], m ++ [_], a7, s7), none, (by refine ⟨rfl, rfl, ?_, ?_⟩ <;> ((repeat' (first | exact trivial | exact rfl | refine And.intro ?_ ?_)) <;> (try ((conv => whnf); first | refine vint ?_ | refine vboo ?_ | refine rint ?_ | refine rrow ?_ | skip)) <;> (try first | omega | (simp; done) | ((repeat rw [flts_closed _ (by assumption)]); exact vws_closed _ (by assumption))))), fin _ _ _ (in4 _ _ _ _ (by unfold InR; omega) (by unfold InR; omega) (by unfold InR; omega) (by unfold InR; omega)) (by omega) (by omega), by simp; omega⟩
  · have h := ltF h
    have h7 : m.length ≤ 16 := by omega
    conv => whnf
    refine ⟨fun h8 => ?_, fun h8 => ?_⟩
    · have h8 : 0 < ws.length := by have := of_decide_eq_true h8; omega
      conv => whnf
      refine ACallS.tmut 0 (pick_spec code hc a2 s2 (by omega) 50 (by omega) (by omega)) ?_ rfl (by (repeat' (first | exact trivial | exact rfl | refine And.intro ?_ ?_)) <;> (try first | omega | (simp; done))) (by (repeat' (first | exact trivial | exact rfl | refine And.intro ?_ ?_)) <;> (try first | omega | (simp; done)))
      rintro v r ⟨c, a3, s3, rfl, l_c, u_c, e_a3, g_a3, rfl⟩
      conv => whnf
      have hin4 : ∀ r, r ∈ m → r.length ≤ 4 ∧ ∀ v, v ∈ r → InR v := fun r hr => ⟨by have := (h4 r hr).1; omega, (h4 r hr).2⟩
      have fin : ∀ (ws' : List Int) (m' : List (List Int)) (a' : Nat) (s' : Int), (ws'.length ≤ 16 ∧ ∀ v, v ∈ ws' → InR v) → (m'.length ≤ 16 ∧ ∀ r, r ∈ m' → r.length ≤ 4 ∧ ∀ v, v ∈ r → InR v) → a3 ≤ a' → a' ≤ a3 + 20 →
          drawnG code a 1000 x y (.ag [.c (.int .i64 x), .c (.int .i64 y), .t (.ints .i64 ws'), .t (.rows m')]) (cur code a' s') := fun ws' m' a' s' k1 k2 l1 l2 =>
        ⟨ws', m', a', s', rfl, ⟨k1.1, k1.2, k2.1, k2.2⟩, by omega, by omega, rfl⟩
      have hset : ∀ (i : Nat) (v : Int), InR v → (ws.set i v).length ≤ 16 ∧ ∀ u, u ∈ ws.set i v → InR u := fun i v hv => by
        refine ⟨by rw [List.length_set]; omega, fun u hu => ?_⟩
        rcases List.mem_or_eq_of_mem_set hu with h | rfl
        · exact h3 u h
        · exact hv
      have hws : ws.length ≤ 16 ∧ ∀ v, v ∈ ws → InR v := ⟨by omega, h3⟩
      have hm : m.length ≤ 16 ∧ ∀ r, r ∈ m → r.length ≤ 4 ∧ ∀ v, v ∈ r → InR v := ⟨h7, hin4⟩
      refine ⟨fun c0 => ?_, fun c0 => ?_⟩
      · clear l_c u_c c0
        refine ADraw.planX [4, 7] tyOk mx (.q 0 (.q 2 (.q 3 (.q 5 (.alt 1 (.alti 4 (.last 6 (.inl 7 (.q 8 (.last 9 (.done))))) (.last 6 (.inl 4 (.inl 7 (.q 8 (.last 9 (.done))))))) (.alti 4 (.alt 1 (.last 6 (.inl 7 (.q 8 (.last 9 (.done))))) (.last 6 (.alt 1 (.inl 7 (.q 8 (.last 9 (.done)))) (.inl 7 (.last 1 (.q 8 (.last 9 (.done)))))))) (.last 6 (.alt 1 (.inl 4 (.inl 7 (.q 8 (.last 9 (.done))))) (.inl 4 (.alt 1 (.inl 7 (.q 8 (.last 9 (.done)))) (.inl 7 (.last 1 (.q 8 (.last 9 (.done)))))))))))))) : Plan) (by kernel_rfl) ?_
        conv => whnf
        repeat' (first
          | (refine fin _ _ _ _ (hset _ _ (by unfold InR; omega)) hm (by omega) (by omega); done)
          | (refine ACallS.tmut 0 (pick_spec code hc _ _ (by omega) ws.length (by omega) (by omega)) ?_ rfl (by (repeat' (first | exact trivial | exact rfl | refine And.intro ?_ ?_)) <;> (try first | omega | (simp; done))) (by (repeat' (first | exact trivial | exact rfl | refine And.intro ?_ ?_)) <;> (try first | omega | (simp; done))); rintro v r ⟨z, a4, s4, rfl, l_z, u_z, e_a4, g_a4, rfl⟩; (conv => whnf))
          | (refine ACallS.inline tyOk mx Try.func116 rfl (by kernel_rfl) rfl ?_; (conv => whnf); refine ACallS.tmut 0 (pick_spec code hc _ _ (by omega) 3 (by omega) (by omega)) ?_ rfl (by (repeat' (first | exact trivial | exact rfl | refine And.intro ?_ ?_)) <;> (try first | omega | (simp; done))) (by (repeat' (first | exact trivial | exact rfl | refine And.intro ?_ ?_)) <;> (try first | omega | (simp; done))); rintro v r ⟨y, a5, s5, rfl, y0, y1, e_a5, g_a5, rfl⟩; (conv => whnf); obtain ⟨i, rfl, hi⟩ := nat_of (len := 3) y0 (by omega); refine ⟨i, rfl, hi, ?_⟩; (conv => whnf); have h_v : -1 ≤ ((((List.replicate 3 (0 : Int)).set 0 99).set 1 100).set 2 (-1)).getD i 0 ∧ ((((List.replicate 3 (0 : Int)).set 0 99).set 1 100).set 2 (-1)).getD i 0 ≤ 100 := among_in (by kernel_rfl) hi; generalize ((((List.replicate 3 (0 : Int)).set 0 99).set 1 100).set 2 (-1)).getD i 0 = v at h_v ⊢; refine ⟨rfl, ?_⟩; (conv => whnf); clear y0 y1 hi)
          | (obtain ⟨i, rfl, hi⟩ := nat_of (len := ws.length) l_z (by omega); refine ⟨i, rfl, hi, ?_⟩; conv => whnf)
          | (refine And.intro ?_ ?_ <;> (conv => whnf)))
      · conv => whnf
        refine ⟨fun c1 => ?_, fun c1 => ?_⟩
        · clear l_c u_c c0 c1
          have hmset : ∀ (i h : Nat) (u v : Int), 0 ≤ u → u ≤ 2 → 0 ≤ v → v ≤ 2 → (m.set i (List.take h (((((List.replicate 4 (0 : Int)).set 0 0).set 1 1).set 2 u).set 3 v))).length ≤ 16 ∧
              ∀ r, r ∈ m.set i (List.take h (((((List.replicate 4 (0 : Int)).set 0 0).set 1 1).set 2 u).set 3 v)) → r.length ≤ 4 ∧ ∀ w, w ∈ r → InR w := fun i h u v hu0 hu hv0 hv => by
            have k := in4 0 1 u v (by unfold InR; omega) (by unfold InR; omega) (by unfold InR; omega) (by unfold InR; omega)
            refine ⟨by rw [List.length_set]; exact h7, fun r hr => ?_⟩
            rcases List.mem_or_eq_of_mem_set hr with h | rfl
            · exact hin4 r h
            · exact ⟨by rw [List.length_take]; omega, fun w hw => k.2 w (List.mem_of_mem_take hw)⟩
          refine ADraw.planT 107 [4, 7, 10, 13] tyOk mx (.q 0 (.q 2 (.q 3 (.q 5 (.q 8 (.q 12 (.ql 1 (.alti 4 (.alt 6 (.alti 7 (.last 9 (.inl 10 (.alt 11 (.inl 13 (.last 14 (.last 15 (.q 16 (.last 17 (.done)))))) (.inl 13 (.alt 11 (.last 14 (.last 15 (.q 16 (.last 17 (.done))))) (.last 14 (.last 11 (.last 15 (.q 16 (.last 17 (.done))))))))))) (.last 9 (.inl 7 (.inl 10 (.alt 11 (.inl 13 (.last 14 (.last 15 (.q 16 (.last 17 (.done)))))) (.inl 13 (.alt 11 (.last 14 (.last 15 (.q 16 (.last 17 (.done))))) (.last 14 (.last 11 (.last 15 (.q 16 (.last 17 (.done))))))))))))) (.last 9 (.last 6 (.inl 7 (.inl 10 (.alt 11 (.inl 13 (.last 14 (.last 15 (.q 16 (.last 17 (.done)))))) (.inl 13 (.alt 11 (.last 14 (.last 15 (.q 16 (.last 17 (.done))))) (.last 14 (.last 11 (.last 15 (.q 16 (.last 17 (.done)))))))))))))) (.alt 6 (.alti 4 (.alti 7 (.last 9 (.inl 10 (.alt 11 (.inl 13 (.last 14 (.last 15 (.q 16 (.last 17 (.done)))))) (.inl 13 (.alt 11 (.last 14 (.last 15 (.q 16 (.last 17 (.done))))) (.last 14 (.last 11 (.last 15 (.q 16 (.last 17 (.done))))))))))) (.last 9 (.inl 7 (.inl 10 (.alt 11 (.inl 13 (.last 14 (.last 15 (.q 16 (.last 17 (.done)))))) (.inl 13 (.alt 11 (.last 14 (.last 15 (.q 16 (.last 17 (.done))))) (.last 14 (.last 11 (.last 15 (.q 16 (.last 17 (.done))))))))))))) (.last 9 (.inl 4 (.inl 7 (.inl 10 (.alt 11 (.inl 13 (.last 14 (.last 15 (.q 16 (.last 17 (.done)))))) (.inl 13 (.alt 11 (.last 14 (.last 15 (.q 16 (.last 17 (.done))))) (.last 14 (.last 11 (.last 15 (.q 16 (.last 17 (.done)))))))))))))) (.last 9 (.alti 4 (.last 6 (.inl 7 (.inl 10 (.alt 11 (.inl 13 (.last 14 (.last 15 (.q 16 (.last 17 (.done)))))) (.inl 13 (.alt 11 (.last 14 (.last 15 (.q 16 (.last 17 (.done))))) (.last 14 (.last 11 (.last 15 (.q 16 (.last 17 (.done)))))))))))) (.last 6 (.inl 4 (.inl 7 (.inl 10 (.alt 11 (.inl 13 (.last 14 (.last 15 (.q 16 (.last 17 (.done)))))) (.inl 13 (.alt 11 (.last 14 (.last 15 (.q 16 (.last 17 (.done))))) (.last 14 (.last 11 (.last 15 (.q 16 (.last 17 (.done))))))))))))))))))))))) : Plan) (by kernel_rfl) ?_
          conv => whnf
          repeat' (first
            | (refine fin _ _ _ _ hws (hmset _ _ _ _ (by assumption) (by assumption) (by assumption) (by assumption)) (by omega) (by omega); done)
            | (refine ACallT.tmutI (pick_spec code hc _ _ (by omega) ws.length (by omega) (by omega)) ?_ rfl (by (repeat' (first | exact trivial | exact rfl | refine And.intro ?_ ?_)) <;> (try first | omega | (simp; done))); rintro v r ⟨z, a4, s4, rfl, l_z, u_z, e_a4, g_a4, rfl⟩; (conv => whnf))
            | (refine ACallT.tmutI (pick_spec code hc _ _ (by omega) 2 (by omega) (by omega)) ?_ rfl (by (repeat' (first | exact trivial | exact rfl | refine And.intro ?_ ?_)) <;> (try first | omega | (simp; done))); rintro v r ⟨z2, a6, s6, rfl, l_z2, u_z2, e_a6, g_a6, rfl⟩; (conv => whnf))
            | (refine ACallT.give ?_; refine ACallT.tmutL (among_spec code hc _ _ (by omega) _ (by kernel_rfl) 0 2 (by kernel_rfl)) ?_ rfl (by (repeat' (first | exact trivial | exact rfl | refine And.intro ?_ ?_)) <;> (try first | omega | (simp; done))); rintro v r ⟨v, a5, s5, rfl, l_v, u_v, e_a5, g_a5, rfl⟩; (conv => whnf))
            | (obtain ⟨h, eh, lh⟩ := cut34 l_z2 u_z2; refine ⟨h, eh, lh, ?_⟩; conv => whnf)
            | (obtain ⟨i, rfl, hi⟩ := nat_of (len := m.length) l_z (by omega); refine ⟨i, rfl, hi, ?_⟩; conv => whnf)
            | (refine And.intro ?_ ?_ <;> (conv => whnf)))
        · conv => whnf
          refine ⟨fun c2 => ?_, fun c2 => ?_⟩
          · conv => whnf
            refine ⟨ws.length, rfl, rfl, by unfold room; omega, ?_⟩
            conv => whnf
            refine fin _ _ _ _ ⟨by simp; omega, fun v hv => ?_⟩ hm (by omega) (by omega)
            rw [List.eq_of_mem_replicate hv]; unfold InR; omega
          · conv => whnf
            refine ⟨fun c3 => ?_, fun c3 => ?_⟩
            · conv => whnf
              refine ⟨1, rfl, by omega, ?_⟩
              conv => whnf
              refine fin _ _ _ _ hws ⟨by rw [List.length_drop]; omega, fun r hr => hin4 r (List.mem_of_mem_drop hr)⟩ (by omega) (by omega)
            · conv => whnf
              exact fin _ _ _ _ hws hm (by omega) (by omega)
    · conv => whnf
      exact ⟨ws, m, a2, s2, rfl, ⟨by omega, h3, h7, fun r hr => ⟨by have := (h4 r hr).1; omega, (h4 r hr).2⟩⟩, by omega, by omega, rfl⟩
end Go.Proofs.Ytkomndcehdneaaa
/- The draw of two games. -/
namespace Go.Proofs.Ytkomndcehdneaaa
open Go.Aw
set_option maxRecDepth 100000

def gmV (x y : Int) (ws : List Int) (m : List (List Int)) : AVal := .ag [.c (.int .i64 x), .c (.int .i64 y), .t (.ints .i64 ws), .t (.rows m)]
/-- a drawn game, of drawn sizes -/
def drawnGG (code : List Int) (a k : Nat) (v : AVal) (r : ARow) : Prop :=
  ∃ (x y : Int) (ws : List Int) (m : List (List Int)) (a' : Nat) (s' : Int), v = .ag [.c (.int .i64 x), .c (.int .i64 y), .t (.ints .i64 ws), .t (.rows m)] ∧ InR x ∧ InR y ∧ SmG ws m ∧ a ≤ a' ∧ a' ≤ a + k ∧ r = cur code a' s'

theorem game_spec (code : List Int) (hc : OkB code) (a : Nat) (s : Int) (ha : a ≤ 600000000) :
    TSpec Try.prog 196 (cur code a s) [.ptr 0 0] (drawnGG code a 1100) := by
  refine tspec tyOk mx Try.func196 rfl (by kernel_rfl) rfl rfl ?_
  conv => whnf
  refine ACallS.tmut 0 (sizes_spec code hc a s (by omega)) ?_ rfl (by (repeat' (first | exact trivial | exact rfl | refine And.intro ?_ ?_)) <;> (try first | omega | (simp; done))) (by (repeat' (first | exact trivial | exact rfl | refine And.intro ?_ ?_)) <;> (try first | omega | (simp; done)))
  rintro v r ⟨x, y, a1, s1, rfl, hx, hy, e1, g1, rfl⟩
  conv => whnf
  refine ACallS.tmut 0 (gameOf_spec code hc a1 s1 (by omega) x y) ?_ rfl (by (repeat' (first | exact trivial | exact rfl | refine And.intro ?_ ?_)) <;> (try first | omega | (simp; done))) (by (repeat' (first | exact trivial | exact rfl | refine And.intro ?_ ?_)) <;> (try first | omega | (simp; done)))
  rintro v r ⟨ws, m, a2, s2, rfl, hsm, e2, g2, rfl⟩
  conv => whnf
  exact ⟨x, y, ws, m, a2, s2, rfl, hx, hy, hsm, by omega, by omega, rfl⟩

end Go.Proofs.Ytkomndcehdneaaa
/- Calls that write a variable of their caller, and hand back rows that are new. -/
namespace Go.Aw
open Go.RowKit

/-- A FUNCTION THAT WRITES A VARIABLE OF ITS CALLER (key 0) AND HANDS BACK ROWS OF ITS OWN -/
def OSpec (P : Program) (f : FuncId) (r0 : ARow) (args : List AVal) (post : AVal → List (Nat × ARow) → ARow → Prop) : Prop := FOk P f ∧
  ∀ (w : World) (B : Nat) (ob : Nat → Prop) (η : Env) (vs : List Value), B ≤ w.heap.size → (∀ b, ob b → b < w.heap.size) → (∀ b, b ∈ bsOf η 0 r0 → ¬ ob b) →
    HRep w B ob [(0, r0)] 1 η → VReps w (badOf ob [(0, r0)] η) [(0, r0)] 1 η args vs →
    Calls P f vs.toArray w fun e w' => ∃ v x h ηh r' η', e = .returned v ∧ post x h r' ∧ noSh x = true ∧ rowsOwn h = true ∧ HRep w' w.heap.size (fun _ => False) h h.length ηh ∧
      VRep w' (fun b => False ∨ ownB h ηh b) h h.length ηh x v ∧ Below B w w' ∧
      (∀ b, b < w.heap.size → b ∉ bsOf η 0 r0 → w'.heap[b]? = w.heap[b]?) ∧ tRow r' = true ∧ RowRep w' B (fun b => badOf ob [(0, r')] η' b ∨ ownB h ηh b) [(0, r')] 1 η' 0 r' ∧ (bsOf η' 0 r').Nodup ∧
      r'.kind = r0.kind ∧ η'.val 0 = η.val 0 ∧ (η'.cel 0).length = (η.cel 0).length

def ofin (sz : Nat) (r0 : ARow) (post : AVal → List (Nat × ARow) → ARow → Prop) (st : St) (l : List AVal) : Prop :=
  match look st.sl sz with
  | some g => match look st.hp 0 with
    | some r' => match Nat.beq r'.kind r0.kind && isGhost r' g && tRow r' && sameLen r0 r' && Nat.beq st.sz sz with
      | true => afin st (resx l) fun x h => match noSh x && rowsOwn h with | true => post x h r' | false => False
      | false => False
    | none => False
  | none => False

def oend (Γ : Tys) (rs : List ResultVar) (sz : Nat) (r0 : ARow) (post : AVal → List (Nat × ARow) → ARow → Prop) : Exit → St → Prop
  | .ret, st => ares Γ st rs (ofin sz r0 post st)
  | .normal, st => ares Γ st rs (ofin sz r0 post st)
  | _, _ => False

section
variable {P : Program} {Γ : Tys} {w0 : Base} {w w' : World} {ob : Nat → Prop} {st : St} {a : Act} {η : Env}

theorem ownsRow_raise {B B1 e n : Nat} {v : Value} {len : Nat} {xs : List Value} (h : w.ownsRow B e n v len xs) (hb : ∀ b, b ∈ blk v → B1 ≤ b) : w.ownsRow B1 e n v len xs := by
  refine ⟨h.1, ?_⟩
  rcases h.2 with h2 | ⟨g, cap, cur, h1, hg, h3⟩
  · exact .inl h2
  · exact .inr ⟨g, cap, cur, h1, hb g (by rw [h1]; simp [blk]), h3⟩

theorem HRep.raise {B B1 : Nat} {hp : List (Nat × ARow)} {nx : Nat} (h : HRep w B ob hp nx η) (ho : rowsOwn hp = true) (hb : ∀ b, ownB hp η b → B1 ≤ b) : HRep w B1 ob hp nx η := by
  refine ⟨fun k r hr => ?_, h.nodup, h.apart, h.lt⟩
  have hrow := h.row k r hr
  have hbk : ∀ b, b ∈ bsOf η k r → B1 ≤ b := fun b hm => hb b ⟨k, r, hr, hm⟩
  match r, rowsOwn_at ho k r hr, hbk, hrow with
  | .ints e kd l, _, hbk, hrow => exact ⟨ownsRow_raise hrow.1 (fun b hm => hbk b (by simpa [bsOf, ARow.kind] using hm)), hrow.2⟩
  | .rows e e1 true m, _, hbk, hrow =>
    refine ⟨ownsRow_raise hrow.1 (fun b hm => hbk b (by simp [bsOf, ARow.kind, hm])), ?_⟩
    refine F2.intro (F2.length hrow.2) (fun i l u hl hu => ?_)
    obtain ⟨u', hu', h'⟩ := F2.at hrow.2 hl
    rw [hu] at hu'
    obtain rfl := Option.some.inj hu'
    exact ownsRow_raise h' (fun b hm => hbk b (by
      simp only [bsOf, ARow.kind, if_true]
      exact List.mem_append.2 (.inr (List.mem_flatMap.2 ⟨u, List.mem_of_getElem? hu, hm⟩))))
  | .rows _ _ false _, hk, _, _ => simp [ARow.kind] at hk
  | .cells .., hk, _, _ => simp [ARow.kind] at hk
  | .recs .., hk, _, _ => simp [ARow.kind] at hk
theorem ospec (hΓ : TysOk P Γ) (hm : P.follows .mixedOrders = true) {f : FuncId} {fn : Func} {c : Code} {r0 : ARow} {args : List AVal} {post : AVal → List (Nat × ARow) → ARow → Prop} (hf : P.funcs[f]? = some fn) (hb : fn.body = some c)
    (hname : (fn.name == "runtime.NumGoroutine") = false) (hn : Nat.ble args.length fn.ntmps = true) (hg : tRow r0 = true)
    (h : acode P Γ c ⟨fn.ntmps, (fn.ntmps, ghostOf r0) :: initSl 0 args, [(0, r0)], 1⟩ (oend Γ fn.results.toList fn.ntmps r0 post)) : OSpec P f r0 args post := by
  refine ⟨⟨fn, hf, hname, by rw [hb]; rfl⟩, fun w B ob η vs hB hobl hfree hh hvs => ?_⟩
  refine calls_of_wp hf hb ?_
  have hle := Nat.le_of_ble_eq_true hn
  have hlen := VReps.length hvs
  have hr0 : look [(0, r0)] 0 = some r0 := rfl
  have hrow0 := hh.row 0 r0 hr0
  have hone : ∀ k r, look [(0, r0)] k = some r → k = 0 ∧ r = r0 := fun k r hk => by
    rw [look_cons] at hk
    split at hk
    · rename_i h0; exact ⟨h0.symm, (Option.some.inj hk).symm⟩
    · cases hk
  let γ : Nat → Value := fun i => if i = fn.ntmps then η.val 0 else undef
  let W0 : Base := ⟨w, B, fun b => b ∈ bsOf η 0 r0, γ⟩
  have hs : SRep W0 ob ⟨fn.ntmps, (fn.ntmps, ghostOf r0) :: initSl 0 args, [(0, r0)], 1⟩ { tmps := vs.toArray ++ Array.replicate (fn.ntmps - vs.toArray.size) undef, defers := [] } w η := by
    have hsz : (vs.toArray ++ Array.replicate (fn.ntmps - vs.toArray.size) undef).size = fn.ntmps := by simp; omega
    refine ⟨rfl, hsz, Below.refl _ _, ⟨hB, hobl, hfree⟩, fun _ _ _ => rfl, fun b ⟨k, r, hk, hb⟩ => ?_, hh, fun i x hi => ?_⟩
    · obtain ⟨rfl, rfl⟩ := hone k r hk; exact .inl hb
    · simp only at hi
      rw [look_cons] at hi
      split at hi
      · rename_i hni
        subst hni
        have hx := Option.some.inj hi
        subst hx
        have hget : (vs.toArray ++ Array.replicate (fn.ntmps - vs.toArray.size) undef).getD fn.ntmps (W0.γ fn.ntmps) = η.val 0 := by
          have : W0.γ fn.ntmps = η.val 0 := if_pos rfl
          rw [Array.getD_eq_getD_getElem?, Array.getElem?_eq_none (by rw [hsz]; exact Nat.le_refl _), this]; rfl
        rw [hget]
        match r0, hg, hrow0, hone with
        | .ints .., hg, _, _ => simp [tRow] at hg
        | .rows .., hg, _, _ => simp [tRow] at hg
        | .recs .., hg, _, _ => simp [tRow] at hg
        | .cells _ [], hg, _, _ => simp [tRow] at hg
        | .cells _ (y :: l), _, hrow0, _ =>
          obtain ⟨b, h1, _, _, h4⟩ := hrow0
          have := VReps.length h4
          exact ⟨Nat.one_pos, fun r _ => ⟨by rw [← this]; simp, b, by rw [h1]; rfl, h1⟩⟩
      · rename_i hni
        obtain ⟨v, _, h2, h3⟩ := init_look' hvs i x hi
        simp only [Nat.sub_zero] at h2
        have hlt : i < vs.length := (List.getElem?_eq_some_iff.1 h2).1
        have : (vs.toArray ++ Array.replicate (fn.ntmps - vs.toArray.size) undef).getD i (W0.γ i) = v := by
          rw [Array.getD_eq_getD_getElem?, Array.getElem?_append_left (by simpa using hlt)]
          simp [h2]
        rw [this]
        exact h3
  refine wp_mono (acode_sound (w0 := W0) hΓ hm c _ _ _ w h ⟨η, hs⟩) (fun e a' w' hl => ?_)
  obtain ⟨st', hk, η', hs'⟩ := hl
  have fin : ares Γ st' fn.results.toList (ofin fn.ntmps r0 post st') → ∃ v, (results fn a'.tmps).run P w' = .ok v w' ∧ ∃ v' x h ηh r' η', Ending.returned v = .returned v' ∧ post x h r' ∧ noSh x = true ∧ rowsOwn h = true ∧ HRep w' w.heap.size (fun _ => False) h h.length ηh ∧
      VRep w' (fun b => False ∨ ownB h ηh b) h h.length ηh x v' ∧ Below B w w' ∧
      (∀ b, b < w.heap.size → b ∉ bsOf η 0 r0 → w'.heap[b]? = w.heap[b]?) ∧ tRow r' = true ∧ RowRep w' B (fun b => badOf ob [(0, r')] η' b ∨ ownB h ηh b) [(0, r')] 1 η' 0 r' ∧ (bsOf η' 0 r').Nodup ∧
      r'.kind = r0.kind ∧ η'.val 0 = η.val 0 ∧ (η'.cel 0).length = (η.cel 0).length := fun hk => by
    obtain ⟨xs, us, h1, h2, h3⟩ := ares_sound hΓ hs' hk
    have hres := results_run h3
    unfold ofin at h1
    have hres0 := resx_rep h2
    split at h1
    case h_2 => exact h1.elim
    case h_1 g hgl =>
      split at h1
      case h_2 => exact h1.elim
      case h_1 r' hr' =>
        split at h1
        case h_2 => exact h1.elim
        case h_1 hc =>
          simp only [Bool.and_eq_true] at hc
          obtain ⟨⟨⟨⟨c1, c2⟩, c3⟩, c4⟩, c5⟩ := hc
          have hsz' := Nat.eq_of_beq_eq_true c5
          have hkind := Nat.eq_of_beq_eq_true c1
          obtain ⟨x', hr, ηr, hpost, hH, hV, hS⟩ := afin_sound' hs' (x := resx xs) hres0 h1
          split at hpost
          case h_2 => exact hpost.elim
          case h_1 hown =>
            simp only [Bool.and_eq_true] at hown
            have hrow' := hs'.heap.row 0 r' hr'
            have hsub : ∀ b, ownB hr ηr b → ownB st'.hp η' b := fun b hb => by
              obtain ⟨j, r, h4, _, h5⟩ := hS b hb
              exact ⟨j, r, h4, h5⟩
            have hkeep : Keeps w' (badOf ob st'.hp η') w' (fun b => badOf ob [(0, r')] η' b ∨ ownB hr ηr b) := fun b o x hb hc => by
              refine ⟨?_, hc⟩
              rintro ((h1 | ⟨j, r1, hj, hm⟩) | h1)
              · exact hb (.inl h1)
              · rw [look_cons] at hj
                split at hj
                · rename_i h0
                  subst h0
                  obtain rfl := Option.some.inj hj
                  exact hb (.inr ⟨0, _, hr', hm⟩)
                · cases hj
              · exact hb (.inr (hsub b h1))
            have hfrm : ∀ b, b < w.heap.size → b ∉ bsOf η 0 r0 → w'.heap[b]? = w.heap[b]? := fun b hb hnb => hs'.frame b hb hnb
            have hnod := hs'.heap.nodup 0 r' hr'
            have hmay : ∀ b, W0.may b → b ∈ bsOf η 0 r0 := fun _ h => h
            have hapart := fun j r hj hne => hs'.heap.apart j r 0 r' hj hr' hne
            match r0, r', g, hg, c2, c3, c4, hrow0, hrow', hr', hgl, hkeep, hkind, hpost, hfrm, hnod, hapart, hmay with
            | .cells _ (y0 :: l0), .cells e (y :: l), .ptr 0 0, _, _, c3, c4, hrow0, hrow', hr', hgl, hkeep, hkind, hpost, hfrm, hnod, hapart, hmay =>
              obtain ⟨b0, p1, p2, p3, p4⟩ := hrow0
              obtain ⟨b1, q1, q2, q3, q4⟩ := hrow'
              have hslot := hs'.slot _ _ hgl
              have hget : a'.tmps.getD fn.ntmps (W0.γ fn.ntmps) = η.val 0 := by
                have e1 : W0.γ fn.ntmps = η.val 0 := if_pos rfl
                rw [Array.getD_eq_getD_getElem?, Array.getElem?_eq_none (by rw [hs'.size, hsz']; exact Nat.le_refl _), e1]; rfl
              rw [hget] at hslot
              have hval : η'.val 0 = η.val 0 := by
                obtain ⟨_, b', e2, e3⟩ := hslot.2 _ hr'
                rw [q1, ptr_blk] at e2
                simp only [List.cons.injEq, and_true] at e2
                rw [q1, e3, e2]
              have hlen' : (η'.cel 0).length = (η.cel 0).length := by
                have l0' := VReps.length p4
                have l1' := VReps.length q4
                have := Nat.eq_of_beq_eq_true c4
                omega
              have hge : ∀ b, ownB hr ηr b → w.heap.size ≤ b := fun b hb => by
                obtain ⟨j, r, h4, h6, h5⟩ := hS b hb
                rcases hs'.src b ⟨j, r, h4, h5⟩ with h7 | h7
                · have hj : j ≠ 0 := fun e1 => by
                    subst e1
                    rw [hr'] at h4
                    exact h6 _ _ (Option.some.inj h4).symm
                  have h8 := hmay b h7
                  refine absurd ?_ (hapart j r h4 hj b h5)
                  simp only [bsOf, ARow.kind, hval] at h8 ⊢
                  exact h8
                · exact h7
              have hH2 := (HRep.raise hH hown.2 hge).bad (ob' := fun _ => False) hown.2
              have hV2 : VRep w' (fun b => False ∨ ownB hr ηr b) hr hr.length ηr x' _ := noSh_bad x' hown.1 hV
              exact ⟨_, hres, _, x', hr, ηr, .cells e (y :: l), η', rfl, hpost, hown.1, hown.2, hH2, hV2, hs'.below, hfrm, c3, ⟨b1, q1, q2, q3, tcells_rep hkeep c3 q4⟩, hnod, hkind, hval, hlen'⟩
  cases e with
  | ret => exact ⟨hs'.defers, fin hk⟩
  | normal => exact ⟨hs'.defers, fin hk⟩
  | _ => exact hk.elim

mutual
theorem noSh_flt (f : Nat → Bool) (g : Nat → Bool) (hf : ∀ k, f k = true) : ∀ (x : AVal), noSh x = true → x.flt f g = x
  | .c _, _ => rfl
  | .nul, _ => rfl
  | .own k, _ => by simp [AVal.flt, hf]
  | .ag l, h => by simp only [AVal.flt]; rw [noShs_flt f g hf l (by simpa [noSh] using h)]
  | .tu l, h => by simp only [AVal.flt]; rw [noShs_flt f g hf l (by simpa [noSh] using h)]
  | .un, h => by simp [noSh] at h
  | .t _, h => by simp [noSh] at h
  | .sub _ _, h => by simp [noSh] at h
  | .ptr _ _, h => by simp [noSh] at h
  | .subp _ _ _, h => by simp [noSh] at h
  | .adr _ _, h => by simp [noSh] at h
  | .rp _ _, h => by simp [noSh] at h
  | .clo _ _, h => by simp [noSh] at h
  | .knot _ _ _, h => by simp [noSh] at h
theorem noShs_flt (f : Nat → Bool) (g : Nat → Bool) (hf : ∀ k, f k = true) : ∀ (l : List AVal), noShs l = true → flts f g l = l
  | [], _ => rfl
  | x :: l, h => by
    simp only [noShs, Bool.and_eq_true] at h
    simp only [flts]
    rw [noSh_flt f g hf x h.1, noShs_flt f g hf l h.2]
end
mutual
theorem noSh_shift (d : Nat) : ∀ (x : AVal), noSh x = true → noSh (x.shift d) = true
  | .c _, _ => rfl
  | .nul, _ => rfl
  | .own k, _ => rfl
  | .ag l, h => by simp only [AVal.shift, noSh]; exact noShs_shift d l (by simpa [noSh] using h)
  | .tu l, h => by simp only [AVal.shift, noSh]; exact noShs_shift d l (by simpa [noSh] using h)
  | .un, h => by simp [noSh] at h
  | .t _, h => by simp [noSh] at h
  | .sub _ _, h => by simp [noSh] at h
  | .ptr _ _, h => by simp [noSh] at h
  | .subp _ _ _, h => by simp [noSh] at h
  | .adr _ _, h => by simp [noSh] at h
  | .rp _ _, h => by simp [noSh] at h
  | .clo _ _, h => by simp [noSh] at h
  | .knot _ _ _, h => by simp [noSh] at h
theorem noShs_shift (d : Nat) : ∀ (l : List AVal), noShs l = true → noShs (shifts d l) = true
  | [], _ => rfl
  | x :: l, h => by
    simp only [noShs, Bool.and_eq_true] at h
    simp only [shifts, noShs, Bool.and_eq_true]
    exact ⟨noSh_shift d x h.1, noShs_shift d l h.2⟩
end

/-- rows of one's own, in a world that has left their blocks -/
theorem HRep.world {hp : List (Nat × ARow)} {nx B : Nat} (h : HRep w B ob hp nx η) (ho : rowsOwn hp = true) (hb : ∀ b, ownB hp η b → w'.heap[b]? = w.heap[b]?) : HRep w' B ob hp nx η := by
  have h1 := HRep.bad (ob' := fun _ => True) h ho
  have hk : ∀ bad', Keeps w (badOf (fun _ => True) hp η) w' bad' := fun bad' b o x hn _ => absurd (.inl trivial) hn
  refine (HRep.bad (ob := fun _ => True) ⟨fun k r hr => ?_, h1.nodup, h1.apart, h1.lt⟩ ho)
  have := (h1.row k r hr).flt (f := fun _ => true) (g := fun _ => true) (w' := w') (bad' := badOf (fun _ => True) hp η) (hp' := hp) (nx' := nx) (η' := η) (hk _) (Nat.le_refl _) (fun k _ _ => OwnOk.refl _ _ k) (fun k _ _ => SubOk.refl _ _ k) rfl rfl
    (fun b hm => hb b ⟨k, r, hr, hm⟩)
  rwa [rowflt_true] at this

theorem ACallS.omut {f : FuncId} {args args0 : List AVal} {r0 : ARow} {K : AVal → St → Prop} {post : AVal → List (Nat × ARow) → ARow → Prop} (k : Nat) (hs : OSpec P f r0 args0 post)
    (hk : ∀ x h r', post x h r' → K (x.shift st.nx) (((st.add h).killSub k).upd k r')) (hlk : look st.hp k = some r0) (hv : vws st.hp [(0, .row k)] 1 args args0) (hr : rowVw st.hp [(0, .row k)] 1 (.row k) r0)
    (hp : pargs args args0 = true := by rfl) (ht : tRow r0 = true := by rfl) : ACallS P st f args K := by
  refine ⟨hs.1, fun w0 ob a w η h vs hvs => ?_⟩
  have hrv : rowsVw st.hp [(0, .row k)] 1 [(0, r0)] := ⟨rfl, hr, trivial⟩
  have hfree : ∀ b, ownB st.hp η b → ¬ ob b := fun b hb => h.free hb
  have ha0 := vws_sound (R := [(0, .row k)]) (nx' := 1) h.heap hfree hrv args args0 hv hvs
  let η1 : Env := ηV st.hp η [(0, Org.row k)]
  let ob1 : Nat → Prop := fun b => ob b ∨ ∃ j r, j ≠ k ∧ look st.hp j = some r ∧ b ∈ bsOf η j r
  have hv0 : η1.val 0 = η.val k := rfl
  have hc0 : η1.cel 0 = η.cel k := rfl
  have hbs : ∀ r, bsOf η1 0 r = bsOf η k r := fun r => by simp only [bsOf, hv0, hc0]
  have hone : ∀ j r, look [(0, r0)] j = some r → j = 0 ∧ r = r0 := fun j r hk => by
    rw [look_cons] at hk
    split at hk
    · rename_i h0; exact ⟨h0.symm, (Option.some.inj hk).symm⟩
    · cases hk
  have hdis : ∀ b, b ∈ bsOf η1 0 r0 → ¬ ob1 b := fun b hb => by
    rw [hbs] at hb
    rintro (h1 | ⟨j, r, hj, hl, hm⟩)
    · exact hfree b ⟨k, r0, hlk, hb⟩ h1
    · exact h.heap.apart j r k r0 hl hlk hj b hm hb
  have hkeep : Keeps w (badOf ob st.hp η) w (badOf ob1 [(0, r0)] η1) := fun b o x hb hc => by
    refine ⟨?_, hc⟩
    rintro ((h1 | ⟨j, r, _, hl, hm⟩) | ⟨j, r, hj, hm⟩)
    · exact hb (.inl h1)
    · exact hb (.inr ⟨j, r, hl, hm⟩)
    · obtain ⟨rfl, rfl⟩ := hone j r hj
      rw [hbs] at hm
      exact hb (.inr ⟨k, _, hlk, hm⟩)
  obtain ⟨b0, hb0, hb0B, hb0lt, hkind0, hkne⟩ : ∃ b0, blk (η.val k) = [b0] ∧ w0.B ≤ b0 ∧ b0 < w.heap.size ∧ bsOf η k r0 = [b0] ∧ r0.kind ≠ 2 := by
    have hrow := h.heap.row k _ hlk
    match r0, ht, hrow with
    | .cells e (y :: l), ht, ⟨b, p1, p2, p3, p4⟩ =>
      have hb : blk (η.val k) = [b] := by rw [p1]; rfl
      exact ⟨b, hb, p2, (Array.getElem?_eq_some_iff.1 p3).1, by simp [bsOf, ARow.kind, hb], by simp [ARow.kind]⟩
    | .cells _ [], ht, _ => simp [tRow] at ht
    | .ints .., ht, _ => simp [tRow] at ht
    | .rows .., ht, _ => simp [tRow] at ht
    | .recs .., ht, _ => simp [tRow] at ht
  have hh1 : HRep w w0.B ob1 [(0, r0)] 1 η1 := by
    refine ⟨fun j r hj => ?_, fun j r hj => ?_, fun j r j' r' hj hj' hne => ?_, fun j r hj => ?_⟩
    · obtain ⟨rfl, rfl⟩ := hone j r hj
      have hrow := h.heap.row k _ hlk
      match r, ht, hrow with
      | .cells e (y :: l), ht, ⟨b, p1, p2, p3, p4⟩ => exact ⟨b, by rw [hv0]; exact p1, p2, by rw [hc0]; exact p3, by rw [hc0]; exact tcells_rep hkeep ht p4⟩
      | .cells _ [], ht, _ => simp [tRow] at ht
      | .ints .., ht, _ => simp [tRow] at ht
      | .rows .., ht, _ => simp [tRow] at ht
      | .recs .., ht, _ => simp [tRow] at ht
    · obtain ⟨rfl, rfl⟩ := hone j r hj
      rw [hbs]; exact h.heap.nodup k _ hlk
    · obtain ⟨rfl, rfl⟩ := hone j r hj
      obtain ⟨rfl, rfl⟩ := hone j' r' hj'
      exact absurd rfl hne
    · obtain ⟨rfl, rfl⟩ := hone j r hj
      exact Nat.one_pos
  refine (hs.2 w w0.B ob1 η1 vs (wB h) (fun b hb => ?_) hdis hh1 (pargs_rep hkeep args args0 vs hp hv hvs ha0)).mono ?_
  · rcases hb with h1 | ⟨j, r, _, hl, hm⟩
    · exact h.badlt (.inl h1)
    · exact h.badlt (.inr ⟨j, r, hl, hm⟩)
  · rintro e w' ⟨v, x, hn, ηh, r', η', rfl, hpo, hns, hro, hH, hV, hbel, hfrm, ht', hrow, hnd, hkind, hval, hlen⟩
    have hknx := h.heap.lt k _ hlk
    have hsz := hbel.size
    -- the world in which the variable is as it was
    have hw0 : ∃ o, w.heap[b0]? = some o := ⟨_, Array.getElem?_eq_getElem hb0lt⟩
    obtain ⟨o0, ho0⟩ := hw0
    let w1 : World := { w' with heap := w'.heap.setIfInBounds b0 o0 }
    have hw1 : ∀ b, b ≠ b0 → w1.heap[b]? = w'.heap[b]? := fun b hb => by simp [w1, Ne.symm hb]
    have hw1s : w1.heap.size = w'.heap.size := by simp [w1]
    have hnb : ∀ b, b ∉ bsOf η1 0 r0 ↔ b ≠ b0 := fun b => by rw [hbs, hkind0]; simp
    have hBel1 : Below w.heap.size w w1 := by
      refine ⟨hbel.os, hbel.tape, hbel.output, by rw [hw1s]; exact hsz, fun b hb => ?_⟩
      by_cases e : b = b0
      · subst e
        rw [ho0]
        simp only [w1]
        rw [Array.getElem?_setIfInBounds, if_pos rfl, if_pos (by omega)]
      · rw [hw1 b e]; exact hfrm b hb ((hnb b).2 e)
    have hnew : ∀ b, ownB hn ηh b → w.heap.size ≤ b := fun b ⟨j, r, hj, hb⟩ => ((hH.row j r hj).lt b hb).1
    have hH1 : HRep w1 w.heap.size (badOf ob st.hp η) hn hn.length ηh := HRep.world (hH.bad hro) hro (fun b hb => hw1 b (by have := hnew b hb; omega))
    have hV0 : VRep w1 (fun _ => True) hn hn.length ηh x v := VRep.frame (w := w') (bad := fun _ => True) (fun b o x hb _ => absurd trivial hb) (Nat.le_refl _) (fun k _ => OwnOk.refl _ _ k) (fun k _ => SubOk.refl _ _ k) (noSh_bad x hns hV)
    obtain ⟨hs1, hvr⟩ := h.join hBel1 hH1
    have hV1 := hvr x v (noSh_bad x hns hV0)
    have hη1 : ∀ j, j < st.nx → (Env.join st.nx η ηh).val j = η.val j ∧ (Env.join st.nx η ηh).cel j = η.cel j := fun j hj => by simp [Env.join, hj]
    have hη2 : ∀ j, (Env.join st.nx η ηh).val (j + st.nx) = ηh.val j ∧ (Env.join st.nx η ηh).cel (j + st.nx) = ηh.cel j := fun j => by
      have : ¬ (j + st.nx < st.nx) := by omega
      simp only [Env.join, this, if_false, Nat.add_sub_cancel]
      exact ⟨trivial, trivial⟩
    have hl1 : ∀ j, j < st.nx → look (st.add hn).hp j = look st.hp j := fun j hj => by
      simp only [St.add]; rw [look_append, look_shift_lt _ _ _ hj]
    have hsplit : ∀ j r, look (st.add hn).hp j = some r → (j < st.nx ∧ look st.hp j = some r) ∨ ∃ i r0, j = i + st.nx ∧ look hn i = some r0 ∧ r = r0.shift st.nx := fun j r hj => by
      by_cases hlt : j < st.nx
      · exact .inl ⟨hlt, by rw [hl1 j hlt] at hj; exact hj⟩
      · obtain ⟨i, rfl⟩ : ∃ i, j = i + st.nx := ⟨j - st.nx, by omega⟩
        simp only [St.add] at hj
        rw [look_append, look_shift] at hj
        cases hi : look hn i with
        | some r1 =>
          rw [hi] at hj
          simp only [Option.map_some, Option.some.injEq] at hj
          exact .inr ⟨i, r1, rfl, hi, hj.symm⟩
        | none =>
          rw [hi] at hj
          simp only [Option.map_none] at hj
          have := h.heap.lt _ r hj
          omega
    generalize hηJ : Env.join st.nx η ηh = ηJ at hs1 hvr hV1 hη1 hη2
    have hlkJ : look (st.add hn).hp k = some r0 := by rw [hl1 k hknx]; exact hlk
    have hbsJ : bsOf ηJ k r0 = [b0] := by rw [bsOf_congr (hη1 k hknx).1 (hη1 k hknx).2 rfl, hkind0]
    have hu : (ηJ.upd k (ηJ.val k) (η'.cel 0)).val k = η'.val 0 := by rw [upd_val, (hη1 k hknx).1, hval, hv0]
    have hbs' : bsOf (ηJ.upd k (ηJ.val k) (η'.cel 0)) k r' = bsOf η' 0 r' := by simp only [bsOf, hu, upd_cel]
    have hbr' : ∀ b, b ∈ bsOf η' 0 r' → b = b0 := fun b hb => by
      have e : bsOf η' 0 r' = [b0] := by simp [bsOf, hkind, hkne, hval, hv0, hb0]
      rw [e] at hb; simpa using hb
    have hkeep' : Keeps w' (fun b => badOf ob1 [(0, r')] η' b ∨ ownB hn ηh b) w' (badOf ob (((st.add hn).killSub k).upd k r').hp (ηJ.upd k (ηJ.val k) (η'.cel 0))) := fun b o x hb hc => by
      refine ⟨?_, hc⟩
      rintro (h1 | ⟨j, r1, hj, hm⟩)
      · exact hb (.inl (.inl (.inl h1)))
      · by_cases hjk : j = k
        · subst hjk
          simp only [St.upd, look_upd, if_true] at hj
          obtain rfl := Option.some.inj hj
          rw [hbs'] at hm
          exact hb (.inl (.inr ⟨0, _, rfl, hm⟩))
        · simp only [St.upd, St.killSub, look_upd, if_neg (Ne.symm hjk), look_fltH] at hj
          obtain ⟨r2, h2, rfl⟩ := Option.map_eq_some_iff.1 hj
          rw [bsOf_flt, bsOf_congr (upd_ne _ _ _ _ j hjk).1 (upd_ne _ _ _ _ j hjk).2 rfl] at hm
          rcases hsplit j r2 h2 with ⟨hlt, h3⟩ | ⟨i, r3, rfl, h3, rfl⟩
          · rw [bsOf_congr (hη1 j hlt).1 (hη1 j hlt).2 rfl] at hm
            exact hb (.inl (.inl (.inr ⟨j, r2, hjk, h3, hm⟩)))
          · have e1 : bsOf ηJ (i + st.nx) (ARow.shift st.nx r3) = bsOf ηh i r3 := by simp only [bsOf, (hη2 i).1, (hη2 i).2, kind_shift]
            rw [e1] at hm
            exact hb (.inr ⟨i, r3, h3, hm⟩)
    have hB1 : Below w0.B w1 w' := by
      refine ⟨rfl, rfl, rfl, by rw [hw1s]; exact Nat.le_refl _, fun b hb => ?_⟩
      exact (hw1 b (by omega)).symm
    have hs' := SRep.mutT (w' := w') hs1 (cs' := η'.cel 0) hlkJ hkind (by rw [hlen, hc0, (hη1 k hknx).2]; exact Nat.le_refl _) (fun b _ hn => by
        rw [hbsJ] at hn
        exact (hw1 b (by simpa using hn)).symm) hB1
      (by rw [hbs']; exact hnd) (fun b hb => by rw [hbs'] at hb; rw [hbsJ]; exact .inl (by simp [hbr' b hb])) (by
        match r', ht', hrow with
        | .cells e (y :: l), ht', ⟨b, p1, p2, p3, p4⟩ => exact ⟨b, by rw [hu]; exact p1, p2, by rw [upd_cel]; exact p3, by rw [upd_cel]; exact tcells_rep hkeep' ht' p4⟩
        | .cells _ [], ht', _ => simp [tRow] at ht'
        | .ints .., ht', _ => simp [tRow] at ht'
        | .rows .., ht', _ => simp [tRow] at ht'
        | .recs .., ht', _ => simp [tRow] at ht')
    have hok : ∀ j, OwnOk (st.add hn).hp ηJ (((st.add hn).killSub k).upd k r').hp (ηJ.upd k (ηJ.val k) (η'.cel 0)) j := fun j => by
      by_cases hjk : j = k
      · subst hjk
        exact ⟨fun r1 h1 => by
          simp only [St.upd, look_upd, if_true] at h1
          obtain rfl := Option.some.inj h1
          exact ⟨r0, hlkJ, hkind.symm, upd_val _ _ _ _, by rw [upd_cel, hlen, hc0, (hη1 j hknx).2]; exact Nat.le_refl _⟩⟩
      · exact OwnOk.of (fun r1 h1 => by
          simp only [St.upd, St.killSub, look_upd, if_neg (Ne.symm hjk), look_fltH] at h1
          obtain ⟨r, h2, rfl⟩ := Option.map_eq_some_iff.1 h1
          exact ⟨r, h2, (kind_flt _ _ r).symm⟩) (upd_ne _ _ _ _ j hjk).1 (upd_ne _ _ _ _ j hjk).2
    have hns' := noSh_shift st.nx x hns
    have hfin : VRep w' (fun _ => True) (((st.add hn).killSub k).upd k r').hp (((st.add hn).killSub k).upd k r').nx (ηJ.upd k (ηJ.val k) (η'.cel 0)) ((x.shift st.nx).flt (fun _ => true) (fun _ => false)) v :=
      VRep.flt (w := w1) (bad := fun _ => True) (fun b o x hb _ => absurd trivial hb) (Nat.le_refl _) (fun j _ _ => hok j) (fun j _ hj => by cases hj) _ _ (noSh_bad _ hns' hV1)
    rw [noSh_flt _ _ (fun _ => rfl) _ hns'] at hfin
    exact ⟨v, x.shift st.nx, _, _, rfl, hk x hn r' hpo, rfl, hs', noSh_bad _ hns' hfin⟩
end
end Go.Aw
