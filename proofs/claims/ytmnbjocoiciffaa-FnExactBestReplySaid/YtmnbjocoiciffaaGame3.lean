/- Functionals of games, lost pairs: reference and program. -/
import Derived.Test.YtmnbjocoiciffaaGame2
namespace Go.Aw
def lostC (s : List Int) (m : List (List Int)) (p : List Int) (nx ny i k : Nat) : Bool := decide (s.getD (i * ny + k) 0 > 0) && ((m.getD (i * ny + k) []).getD (bitIx p nx i k) 0 == 0)
def lostRow (s : List Int) (m : List (List Int)) (p : List Int) (nx ny i : Nat) (l : List Int) (n : Nat) : List Int := fo (fun l k => if lostC s m p nx ny i k then l ++ [((i * ny + k : Nat) : Int)] else l) l n
def lostTo (s : List Int) (m : List (List Int)) (p : List Int) (nx ny n : Nat) : List Int := fo (fun l i => lostRow s m p nx ny i l ny) [] n
theorem lostRow_len (s : List Int) (m : List (List Int)) (p : List Int) (nx ny i : Nat) (l : List Int) : ∀ n, (lostRow s m p nx ny i l n).length ≤ l.length + n
  | 0 => by simp [lostRow, fo]
  | n + 1 => by
    have := lostRow_len s m p nx ny i l n
    show (if lostC s m p nx ny i n then lostRow s m p nx ny i l n ++ [((i * ny + n : Nat) : Int)] else lostRow s m p nx ny i l n).length ≤ _
    split
    · rw [List.length_append, List.length_singleton]; omega
    · omega
theorem lostTo_len (s : List Int) (m : List (List Int)) (p : List Int) (nx ny : Nat) : ∀ n, (lostTo s m p nx ny n).length ≤ n * ny
  | 0 => by simp [lostTo, fo]
  | n + 1 => by
    have := lostTo_len s m p nx ny n
    have h2 := lostRow_len s m p nx ny n (lostTo s m p nx ny n) ny
    show (lostRow s m p nx ny n (lostTo s m p nx ny n) ny).length ≤ _
    rw [Nat.succ_mul]; omega
end Go.Aw
namespace Go.Proofs.Ytmnbjocoiciffaa
open Go.Aw
set_option maxRecDepth 100000
set_option maxHeartbeats 4000000

def gfRes (x y : Int) (s : List Int) (m : List (List Int)) : List (List Int) := if goodG x y s m then funG s m else []
theorem GameFunctional_s (x y : Int) (s : List Int) (m : List (List Int)) (_hx : InR x) (_hy : InR y) (_hs : OkI s) (_hm : OkM m) (ks : SzI s) (km : SzM m) :
    FSpec Try.prog 40 [.ag [.c (.int .i64 (x)), .c (.int .i64 (y)), .t (.ints .i64 s), .t (.rows m)]] (ex (.tu [.own 0, .c (.bool (goodG x y s m))]) [(0, .rows 22 3 true (gfRes x y s m))]) := by
  refine fspec tyOk mx Try.func40 rfl (by kernel_rfl) rfl ?_
  conv => whnf
  refine ACall.use (l4Game_spec x y s m ks km) ?_
  conv => whnf
  refine ⟨fun h => ?_, fun h => ?_⟩
  · have h : goodG x y s m = false := by simpa using h
    conv => whnf
    refine ⟨?_, ?_⟩
    · rw [h]
    · rw [gfRes, h]; rfl
  · have h : goodG x y s m = true := by simpa using h
    have h' := h
    obtain ⟨a, b, rfl, rfl, g1, g2, g3, g4, g5, g6, g7, g8, g9, g10⟩ := goodG_spec h
    conv => whnf
    refine ACall.use (l4Functional_spec _ _ s m (by omega) (by omega) (fun r hr => (g10 r hr).1)) ?_
    conv => whnf
    refine ⟨?_, ?_⟩
    · rw [h']
    · rw [gfRes, h']; rfl
theorem GameFunctional_i (x y : Int) (s : List Int) (m : List (List Int)) (_hx : InR x) (_hy : InR y) (_hs : OkI s) (_hm : OkM m) (ks : SzI s) (km : SzM m) :
    FSpec Try.prog 41 [.ag [.c (.int .i64 (x)), .c (.int .i64 (y)), .t (.ints .i64 s), .t (.rows m)]] (ex (.tu [.own 0, .c (.bool (goodG x y s m))]) [(0, .rows 22 3 true (gfRes x y s m))]) := by
  refine view_rows ?_
  refine fspec tyOk mx Try.func41 rfl (by kernel_rfl) rfl ?_
  conv => whnf
  refine ACall.use (iIsGame_spec x y s m ks km) ?_
  conv => whnf
  refine ⟨fun h => ?_, fun h => ?_⟩
  · have h : goodG x y s m = false := by simpa using h
    conv => whnf
    exact .inl ⟨h, rfl, rfl⟩
  · have h : goodG x y s m = true := by simpa using h
    have h' := h
    obtain ⟨a, b, rfl, rfl, g1, g2, g3, g4, g5, g6, g7, g8, g9, g10⟩ := goodG_spec h
    conv => whnf
    refine ACall.use (functional_spec _ _ s m (by omega) (by omega) (fun r hr => by have := (g10 r hr).1; omega)) ?_
    conv => whnf
    exact .inr ⟨h', rfl, rfl⟩
theorem GameFunctional_bd (x y : Int) (s : List Int) (m : List (List Int)) (_hx : InR x) (_hy : InR y) (_hs : OkI s) (_hm : OkM m) (_ks : SzI s) (_km : SzM m) : (gfRes x y s m).length ≤ 1000000 ∧ tot (gfRes x y s m) ≤ 1000000 := by
  unfold gfRes
  split
  · rename_i h
    obtain ⟨a, b, rfl, rfl, g1, g2, g3, g4, g5, g6, g7, g8, g9, g10⟩ := goodG_spec h
    have h1 : (funG s m).length = m.length := by simp [funG]
    have h2 := tot_le_mul (m := funG s m) (n := 4) (fun q hq => by
      obtain ⟨i, hi, rfl⟩ := List.mem_map.1 hq
      have := (g10 _ (getD_mem (d := []) (by simpa using hi))).1
      rw [fnGRow, List.length_map]; omega)
    omega
  · simp [tot]

theorem lost_spec (nx ny : Nat) (s : List Int) (m : List (List Int)) (p : List Int) (hx : nx ≤ 3) (hy : ny ≤ 3) (hs : s.length = nx * ny) (hm : m.length = nx * ny) (h4 : ∀ r, r ∈ m → r.length = 4) (hp : ∀ v, v ∈ p → 0 ≤ v ∧ v ≤ 1) (hl : p.length = nx + ny) :
    FSpec Try.prog 71 [.ag [.c (.int .i64 (nx)), .c (.int .i64 (ny)), .t (.ints .i64 s), .t (.rows m)], .t (.ints .i64 p)] (ex (.own 0) [(0, .ints 3 .i64 (lostTo s m p nx ny nx))]) := by
  have hn : nx * ny ≤ 3 * 3 := Nat.mul_le_mul hx hy
  refine fspec tyOk mx Try.func71 rfl (by kernel_rfl) rfl ?_
  conv => whnf
  refine aloopI tyOk mx (fun i : Nat => (⟨62, [(1, .t (.ints .i64 p)), (2, .ptr 0 0), (5, .own 1), (11, .c (.int .i64 (nx))), (12, .c (.int .i64 (i)))], [(0, .cells 29 [.c (.int .i64 (nx)), .c (.int .i64 (ny)), .t (.ints .i64 s), .t (.rows m)]), (1, .ints 3 .i64 (lostTo s m p nx ny i))], 2⟩ : St)) (fun i => i ≤ nx) (fun i => nx - i) 0 (Nat.zero_le _) none (by refine ⟨rfl, rfl, ?_, ?_⟩ <;> ((repeat' (first | exact trivial | exact rfl | refine And.intro ?_ ?_)) <;> (try ((conv => whnf); first | refine vint ?_ | refine vboo ?_ | refine rint ?_ | refine rrow ?_ | skip)) <;> (try first | omega | (simp; done) | ((repeat rw [flts_closed _ (by assumption)]); exact vws_closed _ (by assumption))))) (fun i hi => ?_)
  have hlen := lostTo_len s m p nx ny i
  have hin : i * ny ≤ 9 := Nat.le_trans (Nat.mul_le_mul_right ny hi) hn
  refine ⟨fun h => ?_, fun h => ?_⟩
  · have h := ltT h
    conv => whnf
    refine aloopI tyOk mx (fun k : Nat => (⟨62, [(1, .t (.ints .i64 p)), (2, .ptr 0 0), (5, .own 1), (6, .c (.int .i64 (i))), (11, .c (.int .i64 (nx))), (12, .c (.int .i64 (i))), (16, .c (.int .i64 (ny))), (17, .c (.int .i64 (k)))], [(0, .cells 29 [.c (.int .i64 (nx)), .c (.int .i64 (ny)), .t (.ints .i64 s), .t (.rows m)]), (1, .ints 3 .i64 (lostRow s m p nx ny i (lostTo s m p nx ny i) k))], 2⟩ : St)) (fun k => k ≤ ny) (fun k => ny - k) 0 (Nat.zero_le _) none (by refine ⟨rfl, rfl, ?_, ?_⟩ <;> ((repeat' (first | exact trivial | exact rfl | refine And.intro ?_ ?_)) <;> (try ((conv => whnf); first | refine vint ?_ | refine vboo ?_ | refine rint ?_ | refine rrow ?_ | skip)) <;> (try first | omega | (simp; done) | ((repeat rw [flts_closed _ (by assumption)]); exact vws_closed _ (by assumption))))) (fun k hk => ?_)
    have hlen2 := lostRow_len s m p nx ny i (lostTo s m p nx ny i) k
    refine ⟨fun h2 => ?_, fun h2 => ?_⟩
    · have h2 := ltT h2
      have hlt := ix_lt h h2
      have hb := bitIx_eq hp nx i k
      have hrow : (m.getD (i * ny + k) []).length = 4 := h4 _ (getD_mem (by omega))
      conv => whnf
      rw [natMulAdd (by omega)]
      refine ADraw.std tyOk mx ⟨by kernel_rfl, i * ny + k, rfl, by omega, ?_⟩
      conv => whnf
      refine ⟨fun h5 => ?_, fun h5 => ?_⟩
      · conv => whnf
        refine ⟨i * ny + k, rfl, by omega, i, rfl, by omega, nx + k, natAdd (by omega), by omega, bitIx p nx i k, hb.1, by omega, ?_⟩
        conv => whnf
        refine ⟨fun h6 => ?_, fun h6 => ?_⟩
        · have e : lostRow s m p nx ny i (lostTo s m p nx ny i) (k + 1) = lostRow s m p nx ny i (lostTo s m p nx ny i) k ++ [((i * ny + k : Nat) : Int)] := if_pos (by rw [lostC, h5, h6]; rfl)
          conv => whnf
          refine ⟨by simp [room]; omega, ?_⟩
          conv => whnf
          rw [nat_wrap (by omega)]
          refine ⟨k + 1, none, ?_, by omega, by omega⟩
          (refine ⟨rfl, rfl, ?_, ?_⟩ <;> ((repeat' (first | exact trivial | exact rfl | refine And.intro ?_ ?_)) <;> (try ((conv => whnf); first | refine vint ?_ | refine vboo ?_ | refine rint ?_ | refine rrow ?_ | skip)) <;> (try first | omega | (simp; done) | ((repeat rw [flts_closed _ (by assumption)]); exact vws_closed _ (by assumption)))))
          exact e.symm
        · have e : lostRow s m p nx ny i (lostTo s m p nx ny i) (k + 1) = lostRow s m p nx ny i (lostTo s m p nx ny i) k := if_neg (by rw [lostC, h6, Bool.and_false]; simp)
          conv => whnf
          rw [nat_wrap (by omega)]
          refine ⟨k + 1, none, ?_, by omega, by omega⟩
          dsimp only
          rw [e]
          (refine ⟨rfl, rfl, ?_, ?_⟩ <;> ((repeat' (first | exact trivial | exact rfl | refine And.intro ?_ ?_)) <;> (try ((conv => whnf); first | refine vint ?_ | refine vboo ?_ | refine rint ?_ | refine rrow ?_ | skip)) <;> (try first | omega | (simp; done) | ((repeat rw [flts_closed _ (by assumption)]); exact vws_closed _ (by assumption)))))
      · have e : lostRow s m p nx ny i (lostTo s m p nx ny i) (k + 1) = lostRow s m p nx ny i (lostTo s m p nx ny i) k := if_neg (by rw [lostC, h5, Bool.false_and]; simp)
        (repeat (conv => whnf); (first | refine ⟨fun h => absurd h (by decide), fun _ => ?_⟩ | refine ⟨fun _ => ?_, fun h => absurd h (by decide)⟩)); conv => whnf
        rw [nat_wrap (by omega)]
        refine ⟨k + 1, none, ?_, by omega, by omega⟩
        dsimp only
        rw [e]
        (refine ⟨rfl, rfl, ?_, ?_⟩ <;> ((repeat' (first | exact trivial | exact rfl | refine And.intro ?_ ?_)) <;> (try ((conv => whnf); first | refine vint ?_ | refine vboo ?_ | refine rint ?_ | refine rrow ?_ | skip)) <;> (try first | omega | (simp; done) | ((repeat rw [flts_closed _ (by assumption)]); exact vws_closed _ (by assumption)))))
    · have h2 := ltF h2
      obtain rfl : k = ny := by omega
      conv => whnf
      rw [nat_wrap (by omega)]
      exact ⟨i + 1, none, (by refine ⟨rfl, rfl, ?_, ?_⟩ <;> ((repeat' (first | exact trivial | exact rfl | refine And.intro ?_ ?_)) <;> (try ((conv => whnf); first | refine vint ?_ | refine vboo ?_ | refine rint ?_ | refine rrow ?_ | skip)) <;> (try first | omega | (simp; done) | ((repeat rw [flts_closed _ (by assumption)]); exact vws_closed _ (by assumption))))), by omega, by omega⟩
  · have h := ltF h
    obtain rfl : i = nx := by omega
    conv => whnf
    exact ⟨rfl, rfl⟩

def lostRes (x y : Int) (s : List Int) (m : List (List Int)) (p : List Int) : List Int := if isGP x y s m p then lostTo s m p x.toNat y.toNat x.toNat else []

theorem LostPairs_s (x y : Int) (s : List Int) (m : List (List Int)) (_hx : InR x) (_hy : InR y) (_hs : OkI s) (_hm : OkM m) (ks : SzI s) (km : SzM m) (p : List Int) (_hp : OkI p) (kp : SzI p) :
    FSpec Try.prog 35 [.ag [.c (.int .i64 (x)), .c (.int .i64 (y)), .t (.ints .i64 s), .t (.rows m)], .t (.ints .i64 p)] (ex (.tu [.own 0, .c (.bool (isGP x y s m p))]) [(0, .ints 3 .i64 (lostRes x y s m p))]) := by
  refine fspec tyOk mx Try.func35 rfl (by kernel_rfl) rfl ?_
  conv => whnf
  refine ACall.use (l4Played_spec x y s m p ks km kp) ?_
  conv => whnf
  refine ⟨fun h => ?_, fun h => ?_⟩
  · have h : isGP x y s m p = false := by simpa using h
    conv => whnf
    refine ⟨?_, ?_⟩
    · rw [h]
    · rw [lostRes, h]; rfl
  · have h : isGP x y s m p = true := by simpa using h
    have h' := h
    obtain ⟨nx, ny, rfl, rfl, g1, g2, g3, g4, g5, g6, g7, g8, g9, g10, g11, g12⟩ := isGP_spec h
    conv => whnf
    refine aloopI tyOk mx (fun i : Nat => (⟨66, [(1, .t (.ints .i64 p)), (2, .ptr 0 0), (6, .own 1), (7, .c (.int .i64 (i)))], [(0, .cells 29 [.c (.int .i64 (nx)), .c (.int .i64 (ny)), .t (.ints .i64 s), .t (.rows m)]), (1, .ints 3 .i64 (lostTo s m p nx ny i))], 2⟩ : St)) (fun i => i ≤ nx) (fun i => nx - i) 0 (Nat.zero_le _) none (by refine ⟨rfl, rfl, ?_, ?_⟩ <;> ((repeat' (first | exact trivial | exact rfl | refine And.intro ?_ ?_)) <;> (try ((conv => whnf); first | refine vint ?_ | refine vboo ?_ | refine rint ?_ | refine rrow ?_ | skip)) <;> (try first | omega | (simp; done) | ((repeat rw [flts_closed _ (by assumption)]); exact vws_closed _ (by assumption))))) (fun i hi => ?_)
    have hlen := lostTo_len s m p nx ny i
    have hin : i * ny ≤ 9 := Nat.le_trans (Nat.mul_le_mul_right ny hi) g7
    refine ⟨fun h => ?_, fun h => ?_⟩
    · have h := ltT h
      conv => whnf
      refine aloopI tyOk mx (fun k : Nat => (⟨66, [(1, .t (.ints .i64 p)), (2, .ptr 0 0), (6, .own 1), (7, .c (.int .i64 (i))), (8, .c (.int .i64 (k)))], [(0, .cells 29 [.c (.int .i64 (nx)), .c (.int .i64 (ny)), .t (.ints .i64 s), .t (.rows m)]), (1, .ints 3 .i64 (lostRow s m p nx ny i (lostTo s m p nx ny i) k))], 2⟩ : St)) (fun k => k ≤ ny) (fun k => ny - k) 0 (Nat.zero_le _) none (by refine ⟨rfl, rfl, ?_, ?_⟩ <;> ((repeat' (first | exact trivial | exact rfl | refine And.intro ?_ ?_)) <;> (try ((conv => whnf); first | refine vint ?_ | refine vboo ?_ | refine rint ?_ | refine rrow ?_ | skip)) <;> (try first | omega | (simp; done) | ((repeat rw [flts_closed _ (by assumption)]); exact vws_closed _ (by assumption))))) (fun k hk => ?_)
      have hlen2 := lostRow_len s m p nx ny i (lostTo s m p nx ny i) k
      refine ⟨fun h2 => ?_, fun h2 => ?_⟩
      · have h2 := ltT h2
        have hlt := ix_lt h h2
        have hb := bitIx_eq g12 nx i k
        have hrow : (m.getD (i * ny + k) []).length = 4 := (g10 _ (getD_mem (by omega))).1
        have hs1 := g8 (s.getD (i * ny + k) 0) (getD_mem (by omega))
        have hw1 := (g10 (m.getD (i * ny + k) []) (getD_mem (by omega))).2 ((m.getD (i * ny + k) []).getD (bitIx p nx i k) 0) (getD_mem (by omega))
        refine ADraw.std tyOk mx ⟨by kernel_rfl, i * ny + k, natMulAdd (by omega), by omega, ?_⟩
        conv => whnf
        refine ⟨fun h5 => ?_, fun h5 => ?_⟩
        · conv => whnf
          refine ⟨i, rfl, by omega, nx + k, natAdd (by omega), by omega, ?_⟩
          conv => whnf
          refine QCall.use (l4Won_spec nx ny i k (bitIx p nx i k) s m _ _ (by omega) (by omega) (by omega) hb.1 (by omega)) ?_
          have hz : (W (s.getD (i * ny + k) 0 * (m.getD (i * ny + k) []).getD (bitIx p nx i k) 0) == 0) = ((m.getD (i * ny + k) []).getD (bitIx p nx i k) 0 == 0) := by
            have h5 := of_decide_eq_true h5
            have : (m.getD (i * ny + k) []).getD (bitIx p nx i k) 0 = 0 ∨ (m.getD (i * ny + k) []).getD (bitIx p nx i k) 0 = 1 := by omega
            rcases this with e | e <;> rw [e]
            · rw [Int.mul_zero]; rfl
            · rw [Int.mul_one, show W (s.getD (i * ny + k) 0) = s.getD (i * ny + k) 0 from w64 (by omega) (by omega)]
              have : s.getD (i * ny + k) 0 ≠ 0 := by omega
              rw [beq_eq_false_iff_ne.2 this]; rfl
          conv => whnf
          refine ⟨fun h6 => ?_, fun h6 => ?_⟩
          · rw [hz] at h6
            have e : lostRow s m p nx ny i (lostTo s m p nx ny i) (k + 1) = lostRow s m p nx ny i (lostTo s m p nx ny i) k ++ [((i * ny + k : Nat) : Int)] := if_pos (by rw [lostC, h5, h6]; rfl)
            conv => whnf
            rw [natMulAdd (by omega)]
            refine ⟨by simp [room]; omega, ?_⟩
            conv => whnf
            rw [nat_wrap (by omega)]
            refine ⟨k + 1, none, ?_, by omega, by omega⟩
            (refine ⟨rfl, rfl, ?_, ?_⟩ <;> ((repeat' (first | exact trivial | exact rfl | refine And.intro ?_ ?_)) <;> (try ((conv => whnf); first | refine vint ?_ | refine vboo ?_ | refine rint ?_ | refine rrow ?_ | skip)) <;> (try first | omega | (simp; done) | ((repeat rw [flts_closed _ (by assumption)]); exact vws_closed _ (by assumption)))))
            exact e.symm
          · rw [hz] at h6
            have e : lostRow s m p nx ny i (lostTo s m p nx ny i) (k + 1) = lostRow s m p nx ny i (lostTo s m p nx ny i) k := if_neg (by rw [lostC, h6, Bool.and_false]; simp)
            conv => whnf
            rw [nat_wrap (by omega)]
            refine ⟨k + 1, none, ?_, by omega, by omega⟩
            dsimp only
            rw [e]
            (refine ⟨rfl, rfl, ?_, ?_⟩ <;> ((repeat' (first | exact trivial | exact rfl | refine And.intro ?_ ?_)) <;> (try ((conv => whnf); first | refine vint ?_ | refine vboo ?_ | refine rint ?_ | refine rrow ?_ | skip)) <;> (try first | omega | (simp; done) | ((repeat rw [flts_closed _ (by assumption)]); exact vws_closed _ (by assumption)))))
        · have e : lostRow s m p nx ny i (lostTo s m p nx ny i) (k + 1) = lostRow s m p nx ny i (lostTo s m p nx ny i) k := if_neg (by rw [lostC, h5, Bool.false_and]; simp)
          (repeat (conv => whnf); (first | refine ⟨fun h => absurd h (by decide), fun _ => ?_⟩ | refine ⟨fun _ => ?_, fun h => absurd h (by decide)⟩)); conv => whnf
          rw [nat_wrap (by omega)]
          refine ⟨k + 1, none, ?_, by omega, by omega⟩
          dsimp only
          rw [e]
          (refine ⟨rfl, rfl, ?_, ?_⟩ <;> ((repeat' (first | exact trivial | exact rfl | refine And.intro ?_ ?_)) <;> (try ((conv => whnf); first | refine vint ?_ | refine vboo ?_ | refine rint ?_ | refine rrow ?_ | skip)) <;> (try first | omega | (simp; done) | ((repeat rw [flts_closed _ (by assumption)]); exact vws_closed _ (by assumption)))))
      · have h2 := ltF h2
        obtain rfl : k = ny := by omega
        conv => whnf
        rw [nat_wrap (by omega)]
        exact ⟨i + 1, none, (by refine ⟨rfl, rfl, ?_, ?_⟩ <;> ((repeat' (first | exact trivial | exact rfl | refine And.intro ?_ ?_)) <;> (try ((conv => whnf); first | refine vint ?_ | refine vboo ?_ | refine rint ?_ | refine rrow ?_ | skip)) <;> (try first | omega | (simp; done) | ((repeat rw [flts_closed _ (by assumption)]); exact vws_closed _ (by assumption))))), by omega, by omega⟩
    · have h := ltF h
      obtain rfl : i = nx := by omega
      conv => whnf
      refine ⟨?_, ?_⟩
      · rw [h']
      · rw [lostRes, h']; rfl

theorem LostPairs_i (x y : Int) (s : List Int) (m : List (List Int)) (_hx : InR x) (_hy : InR y) (_hs : OkI s) (_hm : OkM m) (ks : SzI s) (km : SzM m) (p : List Int) (_hp : OkI p) (kp : SzI p) :
    FSpec Try.prog 36 [.ag [.c (.int .i64 (x)), .c (.int .i64 (y)), .t (.ints .i64 s), .t (.rows m)], .t (.ints .i64 p)] (ex (.tu [.own 0, .c (.bool (isGP x y s m p))]) [(0, .ints 3 .i64 (lostRes x y s m p))]) := by
  refine view_ints ?_
  refine fspec tyOk mx Try.func36 rfl (by kernel_rfl) rfl ?_
  conv => whnf
  refine ACall.use (isGamePlay_spec x y s m p ks km kp) ?_
  conv => whnf
  refine ⟨fun h => ?_, fun h => ?_⟩
  · have h : isGP x y s m p = false := by simpa using h
    conv => whnf
    exact .inl ⟨h, rfl, rfl⟩
  · have h : isGP x y s m p = true := by simpa using h
    have h' := h
    obtain ⟨nx, ny, rfl, rfl, g1, g2, g3, g4, g5, g6, g7, g8, g9, g10, g11, g12⟩ := isGP_spec h
    conv => whnf
    refine ACall.use (lost_spec nx ny s m p g2 g4 g5 g6 (fun r hr => (g10 r hr).1) g12 g11) ?_
    conv => whnf
    exact .inr ⟨h', rfl, rfl⟩
theorem LostPairs_bd (x y : Int) (s : List Int) (m : List (List Int)) (_hx : InR x) (_hy : InR y) (_hs : OkI s) (_hm : OkM m) (_ks : SzI s) (_km : SzM m) (p : List Int) (_hp : OkI p) (_kp : SzI p) : (lostRes x y s m p).length ≤ 1000000 := by
  unfold lostRes
  split
  · rename_i h
    obtain ⟨nx, ny, rfl, rfl, g1, g2, g3, g4, g5, g6, g7, g8, g9, g10, g11, g12⟩ := isGP_spec h
    have := lostTo_len s m p nx ny nx
    simp only [Int.toNat_natCast]
    omega
  · simp
end Go.Proofs.Ytmnbjocoiciffaa
