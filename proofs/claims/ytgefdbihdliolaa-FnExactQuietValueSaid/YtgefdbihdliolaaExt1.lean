/- Extreme boxes: the boxes of plays, reference and program. -/
import Derived.Test.YtgefdbihdliolaaEqual
import Derived.Test.YtgefdbihdliolaaPlays
namespace Go.Aw
def pbNum (play : List Int) (w : Int) (x y a b : Nat) : Int := if play.getD x 0 = a ∧ play.getD (2 + y) 0 = b then w else 0
def pbM (play : List Int) (w : Int) : List (List Int) := boxRows (pbNum play w) 2 2
theorem pb_row {play : List Int} {w : Int} {i k p q : Nat} (hp : play.getD i 0 = p) (hq : play.getD (2 + k) 0 = q) (h1 : p < 2) (h2 : q < 2) : (List.replicate 4 (0 : Int)).set (2 * p + q) w = boxRow (pbNum play w) i k := by
  unfold boxRow pbNum
  rw [hp, hq]
  have h1 : p = 0 ∨ p = 1 := by omega
  have h2 : q = 0 ∨ q = 1 := by omega
  rcases h1 with rfl | rfl <;> rcases h2 with rfl | rfl <;> rfl
theorem FSpec.told {P : Program} {f : FuncId} {args : List AVal} {x x' : AVal} {h : List (Nat × ARow)} (hs : FSpec P f args (ex x h)) (hv : vw h [] 0 x x') : FSpec P f args (ex x' []) :=
  hs.view (fun y hr e => by obtain ⟨rfl, rfl⟩ := e; exact ⟨[], x', [], rfl, trivial, hv, rfl, rfl⟩)
end Go.Aw
namespace Go.Proofs.Ytgefdbihdliolaa
open Go.Aw
set_option maxRecDepth 100000
set_option maxHeartbeats 4000000

theorem pbNum_spec (play : List Int) (hl : play.length = 4) (w : Int) (i k a b : Nat) (hi : i < 2) (hk : k < 2) :
    FSpec Try.prog 138 [.c (.int .i64 (i)), .c (.int .i64 (k)), .c (.int .i64 (a)), .c (.int .i64 (b)), .rp [.t (.ints .i64 play)] 0, .rp [.c (.int .i64 (2))] 0, .rp [.c (.int .i64 (w))] 0] (ex (.c (.int .i64 (pbNum play w i k a b))) []) := by
  have e : IntKind.i64.wrap ((2 : Int) + (k : Int)) = ((2 + k : Nat) : Int) := by rw [w64 (by omega) (by omega)]; omega
  refine fspec tyOk mx Try.func138 rfl (by kernel_rfl) rfl ?_
  conv => whnf
  refine ⟨i, rfl, by omega, ?_⟩
  conv => whnf
  refine ⟨fun h => ?_, fun h => ?_⟩
  · have h : play.getD i 0 = a := by simpa using h
    conv => whnf
    refine ⟨2 + k, e, by omega, ?_⟩
    conv => whnf
    refine ⟨fun h2 => ?_, fun h2 => ?_⟩
    · have h2 : play.getD (2 + k) 0 = b := by simpa using h2
      conv => whnf
      exact ⟨by rw [pbNum, if_pos ⟨h, h2⟩], rfl⟩
    · have h2 : ¬ play.getD (2 + k) 0 = b := by simpa using h2
      conv => whnf
      exact ⟨by rw [pbNum, if_neg (fun c => h2 c.2)], rfl⟩
  · have h : ¬ play.getD i 0 = a := by simpa using h
    conv => whnf
    (repeat (conv => whnf); (first | refine ⟨fun h => absurd h (by decide), fun _ => ?_⟩ | refine ⟨fun _ => ?_, fun h => absurd h (by decide)⟩)); conv => whnf
    exact ⟨by rw [pbNum, if_neg (fun c => h c.1)], rfl⟩

theorem playBox_spec (play : List Int) (hl : play.length = 4) (w : Int) :
    FSpec Try.prog 116 [.c (.int .i64 (2)), .c (.int .i64 (2)), .t (.ints .i64 play), .c (.int .i64 (w))] (ex (.ag [.c (.int .i64 (2)), .c (.int .i64 (2)), .c (.int .i64 (w)), .own 0]) [(0, .rows 23 3 true (pbM play w))]) := by
  refine fspec tyOk mx Try.func116 rfl (by kernel_rfl) rfl ?_
  conv => whnf
  refine ACall.use (newBox_spec 2 2 w _ [.rp [.t (.ints .i64 play)] 0, .rp [.c (.int .i64 (2))] 0, .rp [.c (.int .i64 (w))] 0] (pbNum play w) (by omega) (by omega) (fun _ _ => rfl) rfl (fun i k' a b hi hk _ _ => pbNum_spec play hl w i k' a b hi hk)) ?_
  conv => whnf
  exact ⟨rfl, rfl⟩

theorem l2PlayBox_spec (play : List Int) (hl : play.length = 4) (h01 : ∀ v, v ∈ play → 0 ≤ v ∧ v ≤ 1) (w : Int) :
    FSpec Try.prog 115 [.c (.int .i64 (2)), .c (.int .i64 (2)), .t (.ints .i64 play), .c (.int .i64 (w))] (ex (.ag [.c (.int .i64 (2)), .c (.int .i64 (2)), .c (.int .i64 (w)), .own 0]) [(0, .rows 23 3 true (pbM play w))]) := by
  refine fspec tyOk mx Try.func115 rfl (by kernel_rfl) rfl ?_
  conv => whnf
  refine aloopI tyOk mx (fun i : Nat => (⟨51, [(0, .c (.int .i64 (2))), (1, .c (.int .i64 (2))), (2, .t (.ints .i64 play)), (3, .c (.int .i64 (w))), (8, .ptr 0 0), (9, .ptr 2 0), (10, .c (.int .i64 (i)))], [(0, .cells 42 [.c (.int .i64 (0)), .c (.int .i64 (0)), .c (.int .i64 (0)), .c (.slice none 0 0)]), (1, .rows 23 3 true (boxTo (pbNum play w) 2 i 0)), (2, .cells 42 [.c (.int .i64 (2)), .c (.int .i64 (2)), .c (.int .i64 (w)), .own 1])], 3⟩ : St)) (fun i => i ≤ 2) (fun i => 2 - i) 0 (Nat.zero_le _) none (by refine ⟨rfl, rfl, ?_, ?_⟩ <;> ((repeat' (first | exact trivial | exact rfl | refine And.intro ?_ ?_)) <;> (try ((conv => whnf); first | refine vint ?_ | refine vboo ?_ | refine rint ?_ | refine rrow ?_ | skip)) <;> (try first | omega | (simp; done) | ((repeat rw [flts_closed _ (by assumption)]); exact vws_closed _ (by assumption))))) (fun i hi => ?_)
  refine ⟨fun h => ?_, fun h => ?_⟩
  · have h : i < 2 := by have := of_decide_eq_true h; omega
    conv => whnf
    refine aloopI tyOk mx (fun k : Nat => (⟨51, [(0, .c (.int .i64 (2))), (1, .c (.int .i64 (2))), (2, .t (.ints .i64 play)), (3, .c (.int .i64 (w))), (8, .ptr 0 0), (9, .ptr 2 0), (10, .c (.int .i64 (i))), (11, .c (.int .i64 (k)))], [(0, .cells 42 [.c (.int .i64 (0)), .c (.int .i64 (0)), .c (.int .i64 (0)), .c (.slice none 0 0)]), (1, .rows 23 3 true (boxTo (pbNum play w) 2 i k)), (2, .cells 42 [.c (.int .i64 (2)), .c (.int .i64 (2)), .c (.int .i64 (w)), .own 1])], 3⟩ : St)) (fun k => k ≤ 2) (fun k => 2 - k) 0 (Nat.zero_le _) none (by refine ⟨rfl, rfl, ?_, ?_⟩ <;> ((repeat' (first | exact trivial | exact rfl | refine And.intro ?_ ?_)) <;> (try ((conv => whnf); first | refine vint ?_ | refine vboo ?_ | refine rint ?_ | refine rrow ?_ | skip)) <;> (try first | omega | (simp; done) | ((repeat rw [flts_closed _ (by assumption)]); exact vws_closed _ (by assumption))))) (fun k hk => ?_)
    have hlen := boxTo_len (pbNum play w) 2 i k
    refine ⟨fun h2 => ?_, fun h2 => ?_⟩
    · have h2 : k < 2 := by have := of_decide_eq_true h2; omega
      have hp := h01 _ (getD_mem (d := 0) (show i < play.length by omega))
      have hq := h01 _ (getD_mem (d := 0) (show 2 + k < play.length by omega))
      have e : IntKind.i64.wrap ((2 : Int) + (k : Int)) = ((2 + k : Nat) : Int) := by rw [w64 (by omega) (by omega)]; omega
      have e2 : IntKind.i64.wrap (IntKind.i64.wrap (2 * play.getD i 0) + play.getD (2 + k) 0) = ((2 * (play.getD i 0).toNat + (play.getD (2 + k) 0).toNat : Nat) : Int) := by
        rw [w64 (n := 2 * play.getD i 0) (by omega) (by omega), w64 (by omega) (by omega)]; omega
      conv => whnf
      refine ⟨4, rfl, rfl, by simp [room], ?_⟩
      conv => whnf
      refine ADraw.plan tyOk mx (.q 0 (.q 1 (.q 2 (.q 3 (.q 4 (.q 5 (.q 6 (.q 7 (.q 8 (.q 9 (.q 10 (.q 11 (.q 12 (.q 13 (.q 14 (.last 15 (.done)))))))))))))))) : Plan) (by kernel_rfl) ?_
      conv => whnf
      repeat' (first | (refine ⟨i, rfl, by omega, ?_⟩; conv => whnf) | (refine ⟨2 + k, e, by omega, ?_⟩; conv => whnf) | (refine ⟨2 * (play.getD i 0).toNat + (play.getD (2 + k) 0).toNat, e2, by rw [List.length_replicate]; omega, ?_⟩; conv => whnf) | (refine ⟨by simp [room]; omega, ?_⟩; conv => whnf) | (refine And.intro ?_ ?_ <;> (conv => whnf)))
      all_goals
        rw [nat_wrap (by omega)]
        refine ⟨k + 1, none, ?_, by omega, by omega⟩
        (refine ⟨rfl, rfl, ?_, ?_⟩ <;> ((repeat' (first | exact trivial | exact rfl | refine And.intro ?_ ?_)) <;> (try ((conv => whnf); first | refine vint ?_ | refine vboo ?_ | refine rint ?_ | refine rrow ?_ | skip)) <;> (try first | omega | (simp; done) | ((repeat rw [flts_closed _ (by assumption)]); exact vws_closed _ (by assumption)))))
        rw [← boxTo_row, ← pb_row (i := i) (k := k) (p := (play.getD i 0).toNat) (q := (play.getD (2 + k) 0).toNat) (by omega) (by omega) (by omega) (by omega)]
    · have h2 : ¬ k < 2 := by have := of_decide_eq_false h2; omega
      obtain rfl : k = 2 := by omega
      conv => whnf
      rw [nat_wrap (by omega)]
      refine ⟨i + 1, none, ?_, by omega, by omega⟩
      (refine ⟨rfl, rfl, ?_, ?_⟩ <;> ((repeat' (first | exact trivial | exact rfl | refine And.intro ?_ ?_)) <;> (try ((conv => whnf); first | refine vint ?_ | refine vboo ?_ | refine rint ?_ | refine rrow ?_ | skip)) <;> (try first | omega | (simp; done) | ((repeat rw [flts_closed _ (by assumption)]); exact vws_closed _ (by assumption)))))
      exact boxTo_end _ 2 i
  · have h : ¬ i < 2 := by have := of_decide_eq_false h; omega
    obtain rfl : i = 2 := by omega
    conv => whnf
    exact ⟨rfl, by rw [boxTo_all]; rfl⟩
end Go.Proofs.Ytgefdbihdliolaa
