/- Best replies: reference and program. -/
import Derived.Test.YtmnbjocoiciffaaGame4
namespace Go.Aw
def bIxR (p : List Int) (x b : Nat) : Nat := (2 * p.getD x 0 + b).toNat
def wonB (s : List Int) (m : List (List Int)) (p : List Int) (ny y b x : Nat) : Int := W (s.getD (x * ny + y) 0 * (m.getD (x * ny + y) []).getD (bIxR p x b) 0)
def brS (s : List Int) (m : List (List Int)) (p : List Int) (ny y b : Nat) (n : Nat) : Int := fo (fun a x => W (a + wonB s m p ny y b x)) 0 n
def brA (s : List Int) (m : List (List Int)) (p : List Int) (nx ny y : Nat) : Int := if brS s m p ny y 1 nx > brS s m p ny y 0 nx then 1 else 0
def brV (s : List Int) (m : List (List Int)) (p : List Int) (nx ny y : Nat) : Int := if brS s m p ny y 1 nx > brS s m p ny y 0 nx then brS s m p ny y 1 nx else brS s m p ny y 0 nx
def brO (s : List Int) (m : List (List Int)) (p : List Int) (nx ny n : Nat) : List Int := (List.range n).map (brA s m p nx ny)
def brT (s : List Int) (m : List (List Int)) (p : List Int) (nx ny n : Nat) : Int := fo (fun a y => W (a + brV s m p nx ny y)) 0 n
theorem bIxR_eq {p : List Int} (h : ∀ v, v ∈ p → 0 ≤ v ∧ v ≤ 1) (x b : Nat) (hb : b < 2) : IntKind.i64.wrap (IntKind.i64.wrap (2 * p.getD x 0) + (b : Int)) = ((bIxR p x b : Nat) : Int) ∧ bIxR p x b < 4 := by
  have h1 := bits_mem h (i := x)
  unfold bIxR
  rw [w64 (n := 2 * p.getD x 0) (by omega) (by omega), w64 (by omega) (by omega)]
  omega
end Go.Aw
namespace Go.Proofs.Ytmnbjocoiciffaa
open Go.Aw
set_option maxRecDepth 100000
set_option maxHeartbeats 4000000

def brOk (x y : Int) (s : List Int) (m : List (List Int)) (p : List Int) : Bool := goodG x y s m && (rowIn p 0 1 && decide ((p.length : Int) = x))
def brR (x y : Int) (s : List Int) (m : List (List Int)) (p : List Int) : List Int := if brOk x y s m p then brO s m p x.toNat y.toNat y.toNat else []
def brN (x y : Int) (s : List Int) (m : List (List Int)) (p : List Int) : Int := if brOk x y s m p then brT s m p x.toNat y.toNat y.toNat else 0

theorem BestReply_i (x y : Int) (s : List Int) (m : List (List Int)) (_hx : InR x) (_hy : InR y) (_hs : OkI s) (_hm : OkM m) (ks : SzI s) (km : SzM m) (p : List Int) (_hp : OkI p) (kp : SzI p) :
    FSpec Try.prog 47 [.ag [.c (.int .i64 (x)), .c (.int .i64 (y)), .t (.ints .i64 s), .t (.rows m)], .t (.ints .i64 p)] (ex (.tu [.own 0, .c (.int .i64 (brN x y s m p)), .c (.bool (brOk x y s m p))]) [(0, .ints 3 .i64 (brR x y s m p))]) := by
  have kp' : p.length ≤ 1048576 := kp
  refine view_intsN ?_
  refine fspec tyOk mx Try.func47 rfl (by kernel_rfl) rfl ?_
  conv => whnf
  refine ACall.use (iIsGame_spec x y s m ks km) ?_
  conv => whnf
  refine ⟨fun h => ?_, fun h => ?_⟩
  · have h : goodG x y s m = true := by simpa using h
    conv => whnf
    refine ⟨fun h2 => ?_, fun h2 => ?_⟩
    · have h2 : (p.length : Int) = x := by simpa using h2
      conv => whnf
      refine ACall.use (allWithin_spec p _ _ (by omega)) ?_
      conv => whnf
      refine ⟨fun h3 => ?_, fun h3 => ?_⟩
      · have h3 : rowIn p 0 1 = false := by simpa using h3
        have e : brOk x y s m p = false := by rw [brOk, h3]; simp
        conv => whnf
        exact .inl ⟨e, rfl, rfl⟩
      · have h3 : rowIn p 0 1 = true := by simpa using h3
        have e : brOk x y s m p = true := by rw [brOk, h, h3, decide_eq_true h2]; rfl
        obtain ⟨nx, ny, rfl, rfl, g1, g2, g3, g4, g5, g6, g7, g8, g9, g10⟩ := goodG_spec h
        have h4 : ∀ r, r ∈ m → r.length = 4 := fun r hr => (g10 r hr).1
        have hp := rowIn_iff.1 h3
        have hpl : p.length = nx := by omega
        have hfl : (funG s m).length = nx * ny := by rw [← g6]; simp [funG]
        conv => whnf
        refine ACall.use (functional_spec _ _ s m (by omega) (by omega) (fun r hr => by have := h4 r hr; omega)) ?_
        conv => whnf
        refine aloopI tyOk mx (fun y : Nat => (⟨89, [(1, .t (.ints .i64 p)), (2, .ptr 0 0), (7, .own 1), (8, .own 2), (9, .c (.int .i64 (brT s m p nx ny y))), (35, .c (.int .i64 (ny))), (36, .c (.int .i64 (y)))], [(0, .cells 29 [.c (.int .i64 (nx)), .c (.int .i64 (ny)), .t (.ints .i64 s), .t (.rows m)]), (1, .rows 22 3 true (funG s m)), (2, .ints 3 .i64 (brO s m p nx ny y))], 3⟩ : St)) (fun y => y ≤ ny) (fun y => ny - y) 0 (Nat.zero_le _) none (by refine ⟨rfl, rfl, ?_, ?_⟩ <;> ((repeat' (first | exact trivial | exact rfl | refine And.intro ?_ ?_)) <;> (try ((conv => whnf); first | refine vint ?_ | refine vboo ?_ | refine rint ?_ | refine rrow ?_ | skip)) <;> (try first | omega | (simp; done) | ((repeat rw [flts_closed _ (by assumption)]); exact vws_closed _ (by assumption))))) (fun y hy => ?_)
        refine ⟨fun hh => ?_, fun hh => ?_⟩
        · have hh := ltT hh
          conv => whnf
          refine aloopI tyOk mx (fun x : Nat => (⟨89, [(1, .t (.ints .i64 p)), (2, .ptr 0 0), (7, .own 1), (8, .own 2), (9, .c (.int .i64 (brT s m p nx ny y))), (10, .c (.int .i64 (y))), (11, .ptr 3 0), (35, .c (.int .i64 (ny))), (36, .c (.int .i64 (y))), (40, .t (.ints .i64 p)), (41, .c (.int .i64 (p.length))), (42, .c (.int .i64 (x)))], [(0, .cells 29 [.c (.int .i64 (nx)), .c (.int .i64 (ny)), .t (.ints .i64 s), .t (.rows m)]), (1, .rows 22 3 true (funG s m)), (2, .ints 3 .i64 (brO s m p nx ny y)), (3, .cells 88 [.c (.int .i64 (brS s m p ny y 0 x)), .c (.int .i64 (brS s m p ny y 1 x))])], 4⟩ : St)) (fun x => x ≤ nx) (fun x => nx - x) 0 (Nat.zero_le _) none (by refine ⟨rfl, rfl, ?_, ?_⟩ <;> ((repeat' (first | exact trivial | exact rfl | refine And.intro ?_ ?_)) <;> (try ((conv => whnf); first | refine vint ?_ | refine vboo ?_ | refine rint ?_ | refine rrow ?_ | skip)) <;> (try first | omega | (simp; done) | ((repeat rw [flts_closed _ (by assumption)]); exact vws_closed _ (by assumption))))) (fun x hx => ?_)
          refine ⟨fun h5 => ?_, fun h5 => ?_⟩
          · have h5 : x < nx := by have := ltT h5; omega
            have hlt := ix_lt h5 hh
            have hrow : (m.getD (x * ny + y) []).length = 4 := h4 _ (getD_mem (by omega))
            conv => whnf
            refine ⟨x, rfl, by omega, ?_⟩
            conv => whnf
            refine aloopI tyOk mx (fun b : Nat => (⟨89, [(1, .t (.ints .i64 p)), (2, .ptr 0 0), (7, .own 1), (8, .own 2), (9, .c (.int .i64 (brT s m p nx ny y))), (10, .c (.int .i64 (y))), (11, .ptr 3 0), (12, .c (.int .i64 (x))), (13, .c (.int .i64 (p.getD x 0))), (35, .c (.int .i64 (ny))), (36, .c (.int .i64 (y))), (40, .t (.ints .i64 p)), (41, .c (.int .i64 (p.length))), (42, .c (.int .i64 (x))), (47, .c (.int .i64 (b)))], [(0, .cells 29 [.c (.int .i64 (nx)), .c (.int .i64 (ny)), .t (.ints .i64 s), .t (.rows m)]), (1, .rows 22 3 true (funG s m)), (2, .ints 3 .i64 (brO s m p nx ny y)), (3, .cells 88 [.c (.int .i64 (brS s m p ny y 0 (x + (if 0 < b then 1 else 0)))), .c (.int .i64 (brS s m p ny y 1 (x + (if 1 < b then 1 else 0))))])], 4⟩ : St)) (fun b => b ≤ 2) (fun b => 2 - b) 0 (by omega) none (by refine ⟨rfl, rfl, ?_, ?_⟩ <;> ((repeat' (first | exact trivial | exact rfl | refine And.intro ?_ ?_)) <;> (try ((conv => whnf); first | refine vint ?_ | refine vboo ?_ | refine rint ?_ | refine rrow ?_ | skip)) <;> (try first | omega | (simp; done) | ((repeat rw [flts_closed _ (by assumption)]); exact vws_closed _ (by assumption))))) (fun b hb => ?_)
            refine ⟨fun h6 => ?_, fun h6 => ?_⟩
            · have h6 : b < 2 := by have := of_decide_eq_true h6; omega
              have hbx := bIxR_eq hp x b h6
              have hcell : ((funG s m).getD (x * ny + y) []).getD (bIxR p x b) 0 = wonB s m p ny y b x := by
                rw [funG, range_getD (by omega), fnGRow, map_getD (d := 0) (by omega), Int.mul_comm]; rfl
              have hl4 : ((funG s m).getD (x * ny + y) []).length = 4 := by rw [funG, range_getD (by omega), fnGRow, List.length_map]; exact hrow
              have hb2 : b = 0 ∨ b = 1 := by omega
              rcases hb2 with rfl | rfl
              · conv => whnf
                refine ADraw.plan tyOk mx (.q 0 (.q 1 (.q 2 (.q 3 (.q 4 (.q 5 (.q 6 (.q 7 (.q 8 (.q 9 (.q 10 (.q 11 (.q 12 (.q 13 (.q 14 (.q 15 (.q 16 (.q 17 (.q 18 (.q 19 (.last 20 (.done))))))))))))))))))))) : Plan) (by kernel_rfl) ?_
                conv => whnf
                refine ⟨0, rfl, by omega, by simp, ?_⟩
                conv => whnf
                refine ⟨x * ny + y, natMulAdd (by omega), by omega, ?_⟩
                conv => whnf
                refine ⟨bIxR p x 0, hbx.1, by omega, ?_⟩
                conv => whnf
                rw [hcell]
                refine ⟨0, rfl, by omega, by simp, ?_⟩
                conv => whnf
                rw [nat_wrap (by omega)]
                refine ⟨1, none, ?_, by omega, by omega⟩
                (refine ⟨rfl, rfl, ?_, ?_⟩ <;> ((repeat' (first | exact trivial | exact rfl | refine And.intro ?_ ?_)) <;> (try ((conv => whnf); first | refine vint ?_ | refine vboo ?_ | refine rint ?_ | refine rrow ?_ | skip)) <;> (try first | omega | (simp; done) | ((repeat rw [flts_closed _ (by assumption)]); exact vws_closed _ (by assumption)))))
              · conv => whnf
                refine ADraw.plan tyOk mx (.q 0 (.q 1 (.q 2 (.q 3 (.q 4 (.q 5 (.q 6 (.q 7 (.q 8 (.q 9 (.q 10 (.q 11 (.q 12 (.q 13 (.q 14 (.q 15 (.q 16 (.q 17 (.q 18 (.q 19 (.last 20 (.done))))))))))))))))))))) : Plan) (by kernel_rfl) ?_
                conv => whnf
                refine ⟨1, rfl, by omega, by simp, ?_⟩
                conv => whnf
                refine ⟨x * ny + y, natMulAdd (by omega), by omega, ?_⟩
                conv => whnf
                refine ⟨bIxR p x 1, hbx.1, by omega, ?_⟩
                conv => whnf
                rw [hcell]
                refine ⟨1, rfl, by omega, by simp, ?_⟩
                conv => whnf
                rw [nat_wrap (by omega)]
                refine ⟨2, none, ?_, by omega, by omega⟩
                (refine ⟨rfl, rfl, ?_, ?_⟩ <;> ((repeat' (first | exact trivial | exact rfl | refine And.intro ?_ ?_)) <;> (try ((conv => whnf); first | refine vint ?_ | refine vboo ?_ | refine rint ?_ | refine rrow ?_ | skip)) <;> (try first | omega | (simp; done) | ((repeat rw [flts_closed _ (by assumption)]); exact vws_closed _ (by assumption)))))
            · have h6 : ¬ b < 2 := by have := of_decide_eq_false h6; omega
              obtain rfl : b = 2 := by omega
              conv => whnf
              rw [nat_wrap (by omega)]
              refine ⟨x + 1, none, ?_, by omega, by omega⟩
              (refine ⟨rfl, rfl, ?_, ?_⟩ <;> ((repeat' (first | exact trivial | exact rfl | refine And.intro ?_ ?_)) <;> (try ((conv => whnf); first | refine vint ?_ | refine vboo ?_ | refine rint ?_ | refine rrow ?_ | skip)) <;> (try first | omega | (simp; done) | ((repeat rw [flts_closed _ (by assumption)]); exact vws_closed _ (by assumption)))))
          · have h5 : ¬ x < nx := by have := ltF h5; omega
            obtain rfl : x = nx := by omega
            have hol : (brO s m p x ny y).length = y := by simp [brO]
            conv => whnf
            refine ⟨1, rfl, by omega, by simp, ?_⟩
            conv => whnf
            refine ⟨0, rfl, by omega, by simp, ?_⟩
            conv => whnf
            refine ⟨fun h7 => ?_, fun h7 => ?_⟩
            · have h7 := of_decide_eq_true h7
              have ea : brA s m p x ny y = 1 := if_pos h7
              have ev : brV s m p x ny y = brS s m p ny y 1 x := if_pos h7
              have eo : brO s m p x ny (y + 1) = brO s m p x ny y ++ [1] := by rw [← ea]; exact (map_range_succ _ _).symm
              have et : brT s m p x ny (y + 1) = W (brT s m p x ny y + brS s m p ny y 1 x) := by rw [← ev]; rfl
              conv => whnf
              refine ADraw.plan tyOk mx (.q 0 (.q 1 (.q 4 (.q 5 (.alt 2 (.alt 3 (.q 9 (.last 6 (.last 7 (.last 8 (.q 10 (.done)))))) (.last 6 (.alt 3 (.q 9 (.last 7 (.last 8 (.q 10 (.done))))) (.last 7 (.alt 3 (.q 9 (.last 8 (.q 10 (.done)))) (.last 8 (.last 3 (.q 9 (.q 10 (.done)))))))))) (.last 6 (.alt 2 (.alt 3 (.q 9 (.last 7 (.last 8 (.q 10 (.done))))) (.last 7 (.alt 3 (.q 9 (.last 8 (.q 10 (.done)))) (.last 8 (.last 3 (.q 9 (.q 10 (.done)))))))) (.last 7 (.alt 2 (.alt 3 (.q 9 (.last 8 (.q 10 (.done)))) (.last 8 (.last 3 (.q 9 (.q 10 (.done)))))) (.last 8 (.last 2 (.last 3 (.q 9 (.q 10 (.done)))))))))))))) : Plan) (by kernel_rfl) ?_
              conv => whnf
              repeat' (first | (refine ⟨by rw [hol]; simp [room]; omega, ?_⟩; conv => whnf) | (refine ⟨1, rfl, by omega, (show 1 < 2 by omega), ?_⟩; conv => whnf) | (refine And.intro ?_ ?_ <;> (conv => whnf)))
              all_goals
                rw [nat_wrap (by omega)]
                refine ⟨y + 1, none, ?_, by omega, by omega⟩
                dsimp only
                rw [eo, et]
                (refine ⟨rfl, rfl, ?_, ?_⟩ <;> ((repeat' (first | exact trivial | exact rfl | refine And.intro ?_ ?_)) <;> (try ((conv => whnf); first | refine vint ?_ | refine vboo ?_ | refine rint ?_ | refine rrow ?_ | skip)) <;> (try first | omega | (simp; done) | ((repeat rw [flts_closed _ (by assumption)]); exact vws_closed _ (by assumption)))))
            · have h7 := of_decide_eq_false h7
              have ea : brA s m p x ny y = 0 := if_neg h7
              have ev : brV s m p x ny y = brS s m p ny y 0 x := if_neg h7
              have eo : brO s m p x ny (y + 1) = brO s m p x ny y ++ [0] := by rw [← ea]; exact (map_range_succ _ _).symm
              have et : brT s m p x ny (y + 1) = W (brT s m p x ny y + brS s m p ny y 0 x) := by rw [← ev]; rfl
              conv => whnf
              refine ADraw.plan tyOk mx (.q 0 (.q 1 (.q 4 (.q 5 (.alt 2 (.alt 3 (.q 9 (.last 6 (.last 7 (.last 8 (.q 10 (.done)))))) (.last 6 (.alt 3 (.q 9 (.last 7 (.last 8 (.q 10 (.done))))) (.last 7 (.alt 3 (.q 9 (.last 8 (.q 10 (.done)))) (.last 8 (.last 3 (.q 9 (.q 10 (.done)))))))))) (.last 6 (.alt 2 (.alt 3 (.q 9 (.last 7 (.last 8 (.q 10 (.done))))) (.last 7 (.alt 3 (.q 9 (.last 8 (.q 10 (.done)))) (.last 8 (.last 3 (.q 9 (.q 10 (.done)))))))) (.last 7 (.alt 2 (.alt 3 (.q 9 (.last 8 (.q 10 (.done)))) (.last 8 (.last 3 (.q 9 (.q 10 (.done)))))) (.last 8 (.last 2 (.last 3 (.q 9 (.q 10 (.done)))))))))))))) : Plan) (by kernel_rfl) ?_
              conv => whnf
              repeat' (first | (refine ⟨by rw [hol]; simp [room]; omega, ?_⟩; conv => whnf) | (refine ⟨0, rfl, by omega, (show 0 < 2 by omega), ?_⟩; conv => whnf) | (refine And.intro ?_ ?_ <;> (conv => whnf)))
              all_goals
                rw [nat_wrap (by omega)]
                refine ⟨y + 1, none, ?_, by omega, by omega⟩
                dsimp only
                rw [eo, et]
                (refine ⟨rfl, rfl, ?_, ?_⟩ <;> ((repeat' (first | exact trivial | exact rfl | refine And.intro ?_ ?_)) <;> (try ((conv => whnf); first | refine vint ?_ | refine vboo ?_ | refine rint ?_ | refine rrow ?_ | skip)) <;> (try first | omega | (simp; done) | ((repeat rw [flts_closed _ (by assumption)]); exact vws_closed _ (by assumption)))))
        · have hh := ltF hh
          obtain rfl : y = ny := by omega
          conv => whnf
          exact .inr ⟨e, rfl, rfl⟩
    · have h2 : ¬ (p.length : Int) = x := by simpa using h2
      have e : brOk x y s m p = false := by rw [brOk, decide_eq_false h2]; simp
      (repeat (conv => whnf); (first | refine ⟨fun h => absurd h (by decide), fun _ => ?_⟩ | refine ⟨fun _ => ?_, fun h => absurd h (by decide)⟩)); conv => whnf
      exact .inl ⟨e, rfl, rfl⟩
  · have h : goodG x y s m = false := by simpa using h
    have e : brOk x y s m p = false := by rw [brOk, h]; simp
    (repeat (conv => whnf); (first | refine ⟨fun h => absurd h (by decide), fun _ => ?_⟩ | refine ⟨fun _ => ?_, fun h => absurd h (by decide)⟩)); conv => whnf
    exact .inl ⟨e, rfl, rfl⟩

theorem BestReply_s (x y : Int) (s : List Int) (m : List (List Int)) (_hx : InR x) (_hy : InR y) (_hs : OkI s) (_hm : OkM m) (ks : SzI s) (km : SzM m) (p : List Int) (_hp : OkI p) (kp : SzI p) :
    FSpec Try.prog 46 [.ag [.c (.int .i64 (x)), .c (.int .i64 (y)), .t (.ints .i64 s), .t (.rows m)], .t (.ints .i64 p)] (ex (.tu [.own 0, .c (.int .i64 (brN x y s m p)), .c (.bool (brOk x y s m p))]) [(0, .ints 3 .i64 (brR x y s m p))]) := by
  have kp' : p.length ≤ 1048576 := kp
  have no : brOk x y s m p = false → brN x y s m p = 0 ∧ brR x y s m p = [] := fun h => by rw [brN, brR, h]; exact ⟨rfl, rfl⟩
  refine fspec tyOk mx Try.func46 rfl (by kernel_rfl) rfl ?_
  conv => whnf
  refine ACall.use (l4Game_spec x y s m ks km) ?_
  conv => whnf
  refine ⟨fun h => ?_, fun h => ?_⟩
  · have h : goodG x y s m = true := by simpa using h
    conv => whnf
    refine ACall.use (l2Bits_spec p _ (by omega)) ?_
    conv => whnf
    refine ⟨fun h2 => ?_, fun h2 => ?_⟩
    · have e : brOk x y s m p = false := by rw [brOk, h, Bool.true_and]; rw [← Bool.not_eq_true']; exact h2
      conv => whnf
      refine ⟨?_, ?_⟩
      · rw [e, (no e).1]
      · rw [(no e).2]; rfl
    · have e : brOk x y s m p = true := by rw [brOk, h, Bool.true_and]; simpa using h2
      have e2 := e
      simp only [brOk, Bool.and_eq_true, decide_eq_true_eq] at e2
      obtain ⟨_, h3, hl2⟩ := e2
      obtain ⟨nx, ny, rfl, rfl, g1, g2, g3, g4, g5, g6, g7, g8, g9, g10⟩ := goodG_spec h
      have h4 : ∀ r, r ∈ m → r.length = 4 := fun r hr => (g10 r hr).1
      have hp := rowIn_iff.1 h3
      have hpl : p.length = nx := by omega
      conv => whnf
      refine aloopI tyOk mx (fun y : Nat => (⟨80, [(1, .t (.ints .i64 p)), (2, .ptr 0 0), (7, .own 1), (8, .c (.int .i64 (brT s m p nx ny y))), (9, .c (.int .i64 (y)))], [(0, .cells 29 [.c (.int .i64 (nx)), .c (.int .i64 (ny)), .t (.ints .i64 s), .t (.rows m)]), (1, .ints 3 .i64 (brO s m p nx ny y))], 2⟩ : St)) (fun y => y ≤ ny) (fun y => ny - y) 0 (Nat.zero_le _) none (by refine ⟨rfl, rfl, ?_, ?_⟩ <;> ((repeat' (first | exact trivial | exact rfl | refine And.intro ?_ ?_)) <;> (try ((conv => whnf); first | refine vint ?_ | refine vboo ?_ | refine rint ?_ | refine rrow ?_ | skip)) <;> (try first | omega | (simp; done) | ((repeat rw [flts_closed _ (by assumption)]); exact vws_closed _ (by assumption))))) (fun y hy => ?_)
      refine ⟨fun hh => ?_, fun hh => ?_⟩
      · have hh := ltT hh
        conv => whnf
        refine aloopI tyOk mx (fun x : Nat => (⟨80, [(1, .t (.ints .i64 p)), (2, .ptr 0 0), (7, .own 1), (8, .c (.int .i64 (brT s m p nx ny y))), (9, .c (.int .i64 (y))), (10, .own 2), (11, .c (.int .i64 (x)))], [(0, .cells 29 [.c (.int .i64 (nx)), .c (.int .i64 (ny)), .t (.ints .i64 s), .t (.rows m)]), (1, .ints 3 .i64 (brO s m p nx ny y)), (2, .ints 3 .i64 [brS s m p ny y 0 x, brS s m p ny y 1 x])], 3⟩ : St)) (fun x => x ≤ nx) (fun x => nx - x) 0 (Nat.zero_le _) none (by refine ⟨rfl, rfl, ?_, ?_⟩ <;> ((repeat' (first | exact trivial | exact rfl | refine And.intro ?_ ?_)) <;> (try ((conv => whnf); first | refine vint ?_ | refine vboo ?_ | refine rint ?_ | refine rrow ?_ | skip)) <;> (try first | omega | (simp; done) | ((repeat rw [flts_closed _ (by assumption)]); exact vws_closed _ (by assumption))))) (fun x hx => ?_)
        refine ⟨fun h5 => ?_, fun h5 => ?_⟩
        · have h5 := ltT h5
          have hlt := ix_lt h5 hh
          have hrow : (m.getD (x * ny + y) []).length = 4 := h4 _ (getD_mem (by omega))
          conv => whnf
          refine aloopI tyOk mx (fun b : Nat => (⟨80, [(1, .t (.ints .i64 p)), (2, .ptr 0 0), (7, .own 1), (8, .c (.int .i64 (brT s m p nx ny y))), (9, .c (.int .i64 (y))), (10, .own 2), (11, .c (.int .i64 (x))), (12, .c (.int .i64 (b)))], [(0, .cells 29 [.c (.int .i64 (nx)), .c (.int .i64 (ny)), .t (.ints .i64 s), .t (.rows m)]), (1, .ints 3 .i64 (brO s m p nx ny y)), (2, .ints 3 .i64 [brS s m p ny y 0 (x + (if 0 < b then 1 else 0)), brS s m p ny y 1 (x + (if 1 < b then 1 else 0))])], 3⟩ : St)) (fun b => b ≤ 2) (fun b => 2 - b) 0 (by omega) none (by refine ⟨rfl, rfl, ?_, ?_⟩ <;> ((repeat' (first | exact trivial | exact rfl | refine And.intro ?_ ?_)) <;> (try ((conv => whnf); first | refine vint ?_ | refine vboo ?_ | refine rint ?_ | refine rrow ?_ | skip)) <;> (try first | omega | (simp; done) | ((repeat rw [flts_closed _ (by assumption)]); exact vws_closed _ (by assumption))))) (fun b hb => ?_)
          refine ⟨fun h6 => ?_, fun h6 => ?_⟩
          · have h6 : b < 2 := by have := of_decide_eq_true h6; omega
            have hbx := bIxR_eq hp x b h6
            have hb2 : b = 0 ∨ b = 1 := by omega
            rcases hb2 with rfl | rfl
            · refine ADraw.plan tyOk mx (.q 0 (.q 1 (.q 2 (.q 3 (.q 4 (.q 5 (.q 6 (.q 7 (.q 8 (.q 9 (.q 10 (.q 11 (.q 12 (.q 13 (.last 14 (.q 15 (.q 16 (.last 17 (.done)))))))))))))))))) : Plan) (by kernel_rfl) ?_
              conv => whnf
              repeat' (first | (refine ⟨0, rfl, (show 0 < 2 by omega), ?_⟩; conv => whnf) | (refine ⟨x, rfl, by omega, ?_⟩; conv => whnf) | (refine ACall.useR (l4Won_spec nx ny x y (bIxR p x 0) s m _ _ (by omega) (by omega) (by omega) hbx.1 (by omega)) ?_; conv => whnf) | (refine And.intro ?_ ?_ <;> (conv => whnf)))
              all_goals
                rw [nat_wrap (by omega)]
                refine ⟨1, none, ?_, by omega, by omega⟩
                (refine ⟨rfl, rfl, ?_, ?_⟩ <;> ((repeat' (first | exact trivial | exact rfl | refine And.intro ?_ ?_)) <;> (try ((conv => whnf); first | refine vint ?_ | refine vboo ?_ | refine rint ?_ | refine rrow ?_ | skip)) <;> (try first | omega | (simp; done) | ((repeat rw [flts_closed _ (by assumption)]); exact vws_closed _ (by assumption)))))
            · refine ADraw.plan tyOk mx (.q 0 (.q 1 (.q 2 (.q 3 (.q 4 (.q 5 (.q 6 (.q 7 (.q 8 (.q 9 (.q 10 (.q 11 (.q 12 (.q 13 (.last 14 (.q 15 (.q 16 (.last 17 (.done)))))))))))))))))) : Plan) (by kernel_rfl) ?_
              conv => whnf
              repeat' (first | (refine ⟨1, rfl, (show 1 < 2 by omega), ?_⟩; conv => whnf) | (refine ⟨x, rfl, by omega, ?_⟩; conv => whnf) | (refine ACall.useR (l4Won_spec nx ny x y (bIxR p x 1) s m _ _ (by omega) (by omega) (by omega) hbx.1 (by omega)) ?_; conv => whnf) | (refine And.intro ?_ ?_ <;> (conv => whnf)))
              all_goals
                rw [nat_wrap (by omega)]
                refine ⟨2, none, ?_, by omega, by omega⟩
                (refine ⟨rfl, rfl, ?_, ?_⟩ <;> ((repeat' (first | exact trivial | exact rfl | refine And.intro ?_ ?_)) <;> (try ((conv => whnf); first | refine vint ?_ | refine vboo ?_ | refine rint ?_ | refine rrow ?_ | skip)) <;> (try first | omega | (simp; done) | ((repeat rw [flts_closed _ (by assumption)]); exact vws_closed _ (by assumption)))))
          · have h6 : ¬ b < 2 := by have := of_decide_eq_false h6; omega
            obtain rfl : b = 2 := by omega
            conv => whnf
            rw [nat_wrap (by omega)]
            refine ⟨x + 1, none, ?_, by omega, by omega⟩
            (refine ⟨rfl, rfl, ?_, ?_⟩ <;> ((repeat' (first | exact trivial | exact rfl | refine And.intro ?_ ?_)) <;> (try ((conv => whnf); first | refine vint ?_ | refine vboo ?_ | refine rint ?_ | refine rrow ?_ | skip)) <;> (try first | omega | (simp; done) | ((repeat rw [flts_closed _ (by assumption)]); exact vws_closed _ (by assumption)))))
        · have h5 := ltF h5
          obtain rfl : x = nx := by omega
          have hol : (brO s m p x ny y).length = y := by simp [brO]
          conv => whnf
          refine ADraw.std tyOk mx ⟨by kernel_rfl, 1, rfl, (show 1 < 2 by omega), 0, rfl, (show 0 < 2 by omega), ?_⟩
          conv => whnf
          refine ⟨fun h7 => ?_, fun h7 => ?_⟩
          · have h7 := of_decide_eq_true h7
            have ea : brA s m p x ny y = 1 := if_pos h7
            have ev : brV s m p x ny y = brS s m p ny y 1 x := if_pos h7
            have eo : brO s m p x ny (y + 1) = brO s m p x ny y ++ [1] := by rw [← ea]; exact (map_range_succ _ _).symm
            have et : brT s m p x ny (y + 1) = W (brT s m p x ny y + brS s m p ny y 1 x) := by rw [← ev]; rfl
            conv => whnf
            refine ⟨by rw [hol]; simp [room]; omega, ?_⟩
            conv => whnf
            refine ⟨1, rfl, (show 1 < 2 by omega), ?_⟩
            conv => whnf
            rw [nat_wrap (by omega)]
            refine ⟨y + 1, none, ?_, by omega, by omega⟩
            dsimp only
            rw [eo, et]
            (refine ⟨rfl, rfl, ?_, ?_⟩ <;> ((repeat' (first | exact trivial | exact rfl | refine And.intro ?_ ?_)) <;> (try ((conv => whnf); first | refine vint ?_ | refine vboo ?_ | refine rint ?_ | refine rrow ?_ | skip)) <;> (try first | omega | (simp; done) | ((repeat rw [flts_closed _ (by assumption)]); exact vws_closed _ (by assumption)))))
          · have h7 := of_decide_eq_false h7
            have ea : brA s m p x ny y = 0 := if_neg h7
            have ev : brV s m p x ny y = brS s m p ny y 0 x := if_neg h7
            have eo : brO s m p x ny (y + 1) = brO s m p x ny y ++ [0] := by rw [← ea]; exact (map_range_succ _ _).symm
            have et : brT s m p x ny (y + 1) = W (brT s m p x ny y + brS s m p ny y 0 x) := by rw [← ev]; rfl
            conv => whnf
            refine ⟨by rw [hol]; simp [room]; omega, ?_⟩
            conv => whnf
            refine ⟨0, rfl, (show 0 < 2 by omega), ?_⟩
            conv => whnf
            rw [nat_wrap (by omega)]
            refine ⟨y + 1, none, ?_, by omega, by omega⟩
            dsimp only
            rw [eo, et]
            (refine ⟨rfl, rfl, ?_, ?_⟩ <;> ((repeat' (first | exact trivial | exact rfl | refine And.intro ?_ ?_)) <;> (try ((conv => whnf); first | refine vint ?_ | refine vboo ?_ | refine rint ?_ | refine rrow ?_ | skip)) <;> (try first | omega | (simp; done) | ((repeat rw [flts_closed _ (by assumption)]); exact vws_closed _ (by assumption)))))
      · have hh := ltF hh
        obtain rfl : y = ny := by omega
        conv => whnf
        refine ⟨?_, ?_⟩
        · rw [e, brN, e]; rfl
        · rw [brR, e]; rfl
  · have h : goodG x y s m = false := by simpa using h
    have e : brOk x y s m p = false := by rw [brOk, h]; rfl
    (repeat (conv => whnf); (first | refine ⟨fun h => absurd h (by decide), fun _ => ?_⟩ | refine ⟨fun _ => ?_, fun h => absurd h (by decide)⟩)); conv => whnf
    refine ⟨?_, ?_⟩
    · rw [e, (no e).1]
    · rw [(no e).2]; rfl
theorem BestReply_bd (x y : Int) (s : List Int) (m : List (List Int)) (_hx : InR x) (_hy : InR y) (_hs : OkI s) (_hm : OkM m) (_ks : SzI s) (_km : SzM m) (p : List Int) (_hp : OkI p) (_kp : SzI p) : (brR x y s m p).length ≤ 1000000 := by
  unfold brR
  split
  · rename_i h
    simp only [brOk, Bool.and_eq_true] at h
    obtain ⟨nx, ny, rfl, rfl, g1, g2, g3, g4, _⟩ := goodG_spec h.1
    simp [brO]; omega
  · simp
end Go.Proofs.Ytmnbjocoiciffaa
