/- The value of two games at once: reference and program. -/
import Derived.Test.YtpakfehinfcdoaaGame2
import Derived.Test.YtpakfehinfcdoaaSignWorth0
namespace Go.Aw
def qan (c q : Nat) : Int := bits .and .i64 (shr .i64 c (IntKind.i64.wrap (2 * (q : Int)))) 3
theorem qan_bd {c q : Nat} (hc : c < 256) (hq : q < 4) : 0 ≤ qan c q ∧ qan c q ≤ 3 := by
  have : ∀ c : Nat, c < 256 → ∀ q : Nat, q < 4 → 0 ≤ qan c q ∧ qan c q ≤ 3 := by decide +kernel
  exact this c hc q hq
def ixA (a : Int) (r : Nat) : Nat := (2 * (a / 2) + ((r / 2 : Nat) : Int)).toNat
def ixB (a : Int) (r : Nat) : Nat := (2 * (a % 2) + ((r % 2 : Nat) : Int)).toNat
theorem a_cases {a : Int} {r : Nat} {p : Int → Nat → Prop} (h : ∀ a : Nat, a < 4 → ∀ r : Nat, r < 4 → p (a : Int) r) (h0 : 0 ≤ a) (h3 : a ≤ 3) (hr : r < 4) : p a r := by
  have := h a.toNat (by omega) r hr
  rwa [show ((a.toNat : Nat) : Int) = a by omega] at this
theorem ixA_lt {a : Int} {r : Nat} (h0 : 0 ≤ a) (h3 : a ≤ 3) (hr : r < 4) : ixA a r < 4 := by unfold ixA; omega
theorem ixB_lt {a : Int} {r : Nat} (h0 : 0 ≤ a) (h3 : a ≤ 3) (hr : r < 4) : ixB a r < 4 := by unfold ixB; omega
theorem ixA_s {a : Int} {r : Nat} (h0 : 0 ≤ a) (h3 : a ≤ 3) (hr : r < 4) : IntKind.i64.wrap (IntKind.i64.wrap (2 * shr .i64 a 1) + shr .i64 (r : Int) 1) = ((ixA a r : Nat) : Int) :=
  a_cases (p := fun a r => IntKind.i64.wrap (IntKind.i64.wrap (2 * shr .i64 a 1) + shr .i64 (r : Int) 1) = ((ixA a r : Nat) : Int)) (by decide +kernel) h0 h3 hr
theorem ixB_s {a : Int} {r : Nat} (h0 : 0 ≤ a) (h3 : a ≤ 3) (hr : r < 4) : IntKind.i64.wrap (IntKind.i64.wrap (2 * bits .and .i64 a 1) + bits .and .i64 (r : Int) 1) = ((ixB a r : Nat) : Int) :=
  a_cases (p := fun a r => IntKind.i64.wrap (IntKind.i64.wrap (2 * bits .and .i64 a 1) + bits .and .i64 (r : Int) 1) = ((ixB a r : Nat) : Int)) (by decide +kernel) h0 h3 hr
theorem ixA_i {a : Int} {r : Nat} (h0 : 0 ≤ a) (h3 : a ≤ 3) (hr : r < 4) : bits .or .i64 (bits .and .i64 a 2) (shr .i64 (r : Int) 1) = ((ixA a r : Nat) : Int) :=
  a_cases (p := fun a r => bits .or .i64 (bits .and .i64 a 2) (shr .i64 (r : Int) 1) = ((ixA a r : Nat) : Int)) (by decide +kernel) h0 h3 hr
theorem ixB_i {a : Int} {r : Nat} (h0 : 0 ≤ a) (h3 : a ≤ 3) (hr : r < 4) : bits .or .i64 (shl .i64 (bits .and .i64 a 1) 1) (bits .and .i64 (r : Int) 1) = ((ixB a r : Nat) : Int) :=
  a_cases (p := fun a r => bits .or .i64 (shl .i64 (bits .and .i64 a 1) 1) (bits .and .i64 (r : Int) 1) = ((ixB a r : Nat) : Int)) (by decide +kernel) h0 h3 hr

/-- one pair of questions of both, for one pair of answers -/
def btm (s s' : List Int) (m m' : List (List Int)) (i j : Nat) (a : Int) (r : Nat) : Int := W (W (W (s.getD i 0 * s'.getD j 0) * (m.getD i []).getD (ixA a r) 0) * (m'.getD j []).getD (ixB a r) 0)
theorem btm_eq (s s' : List Int) (m m' : List (List Int)) (i j : Nat) (a : Int) (r : Nat) :
    W (W (s.getD i 0 * (m.getD i []).getD (ixA a r) 0) * W (s'.getD j 0 * (m'.getD j []).getD (ixB a r) 0)) = btm s s' m m' i j a r := by
  unfold btm
  rw [Wmul1, Wmul2, Wmul1 (s.getD i 0 * s'.getD j 0), Wmul1]
  generalize s.getD i 0 = p
  generalize s'.getD j 0 = q
  generalize (m.getD i []).getD (ixA a r) 0 = u
  generalize (m'.getD j []).getD (ixB a r) 0 = v
  congr 1
  simp only [Int.mul_comm, Int.mul_left_comm]
def mx2 (a b : Int) : Int := if b > a then b else a
theorem mx2_gt (a b : Int) : (if a > b then a else b) = mx2 a b := by unfold mx2; split <;> split <;> omega
theorem max4 (a b c d : Int) : (if d > (if c > (if b > a then b else a) then c else (if b > a then b else a)) then d else (if c > (if b > a then b else a) then c else (if b > a then b else a))) > 2 ↔ (a > 2 ∨ b > 2 ∨ c > 2 ∨ d > 2) := by
  split <;> split <;> split <;> omega
section
variable (s s' : List Int) (m m' : List (List Int)) (gy hx hy : Nat) (c : Nat)
def bq (o r : Nat) (n : Nat) : Int := fo (fun a q => W (a + btm s s' m m' (q / hx * gy + o / hy) (q % hx * hy + o % hy) (qan c q) r)) 0 n
def brr (o : Nat) (Q n : Nat) : Int := fo (fun b r => mx2 b (bq s s' m m' gy hx hy c o r Q)) 0 n
def bo (Q n : Nat) : Int := fo (fun a o => W (a + brr s s' m m' gy hx hy c o Q 4)) 0 n
end
def bc (s s' : List Int) (m m' : List (List Int)) (gy hx hy Q O n : Nat) : Int := fo (fun b c => mx2 b (bo s s' m m' gy hx hy c Q O)) 0 n
theorem tdiv_nat (a b : Nat) (h : a ≤ 1000000) : IntKind.i64.wrap (Int.tdiv (a : Int) (b : Int)) = ((a / b : Nat) : Int) := by
  rw [show Int.tdiv (a : Int) (b : Int) = ((a / b : Nat) : Int) from (Int.ofNat_tdiv a b).symm]
  have := Nat.div_le_self a b
  generalize a / b = d at this
  exact w64 (by omega) (by omega)
theorem tmod_nat (a b : Nat) : Int.tmod (a : Int) (b : Int) = ((a % b : Nat) : Int) := (Int.ofNat_tmod a b).symm
theorem div_ix {q Q nx : Nat} (h : q < Q * nx) : q / nx < Q := Nat.div_lt_of_lt_mul (by rwa [Nat.mul_comm])
end Go.Aw
namespace Go.Proofs.Ytpakfehinfcdoaa
open Go.Aw
set_option maxRecDepth 100000
set_option maxHeartbeats 4000000

def bothOk (x y : Int) (s : List Int) (m : List (List Int)) (x' y' : Int) (s' : List Int) (m' : List (List Int)) : Bool :=
  goodG x y s m && goodG x' y' s' m' && (decide (x ≤ 2) && decide (y ≤ 2) && decide (x' ≤ 2) && decide (y' ≤ 2))
def bothV (x y : Int) (s : List Int) (m : List (List Int)) (x' y' : Int) (s' : List Int) (m' : List (List Int)) : Int :=
  if bothOk x y s m x' y' s' m' then bc s s' m m' y.toNat x'.toNat y'.toNat (x.toNat * x'.toNat) (y.toNat * y'.toNat) (2 ^ (2 * (x.toNat * x'.toNat))) else 0

theorem BothValue_i (x y : Int) (s : List Int) (m : List (List Int)) (_hx : InR x) (_hy : InR y) (_hs : OkI s) (_hm : OkM m) (ks : SzI s) (km : SzM m) (x' y' : Int) (s' : List Int) (m' : List (List Int)) (_hx' : InR x') (_hy' : InR y') (_hs' : OkI s') (_hm' : OkM m') (ks' : SzI s') (km' : SzM m') :
    FSpec Try.prog 7 [.ag [.c (.int .i64 (x)), .c (.int .i64 (y)), .t (.ints .i64 s), .t (.rows m)], .ag [.c (.int .i64 (x')), .c (.int .i64 (y')), .t (.ints .i64 s'), .t (.rows m')]] (ex (.tu [.c (.int .i64 (bothV x y s m x' y' s' m')), .c (.bool (bothOk x y s m x' y' s' m'))]) []) := by
  have no : bothOk x y s m x' y' s' m' = false → bothV x y s m x' y' s' m' = 0 := fun e => by rw [bothV, e]; rfl
  refine fspec tyOk mx Try.func7 rfl (by kernel_rfl) rfl ?_
  conv => whnf
  refine ACall.use (iIsGame_spec x y s m ks km) ?_
  refine ⟨fun h => ?_, fun h => ?_⟩
  · have h : goodG x y s m = true := by simpa using h
    conv => whnf
    refine ACall.use (iIsGame_spec x' y' s' m' ks' km') ?_
    conv => whnf
    refine ⟨fun h2 => ?_, fun h2 => ?_⟩
    · have h2 : goodG x' y' s' m' = true := by simpa using h2
      obtain ⟨gx, gy, rfl, rfl, g1, g2, g3, g4, g5, g6, g7, g8, g9, g10⟩ := goodG_spec h
      obtain ⟨hx, hy, rfl, rfl, k1, k2, k3, k4, k5, k6, k7, k8, k9, k10⟩ := goodG_spec h2
      conv => whnf
      refine ⟨fun h3 => ?_, fun h3 => ?_⟩
      · have h3 := (max4 _ _ _ _).1 (of_decide_eq_true h3)
        have e : bothOk gx gy s m hx hy s' m' = false := by
          rw [bothOk, h, h2]
          by_cases a1 : gx ≤ 2 <;> by_cases a2 : gy ≤ 2 <;> by_cases a3 : hx ≤ 2 <;> by_cases a4 : hy ≤ 2 <;> first | (exfalso; omega) | simp <;> omega
        conv => whnf
        exact ⟨by rw [no e, e], rfl⟩
      · have h3 : ¬ ((gx : Int) > 2 ∨ (gy : Int) > 2 ∨ (hx : Int) > 2 ∨ (hy : Int) > 2) := fun e => of_decide_eq_false h3 ((max4 _ _ _ _).2 e)
        have l1 : gx ≤ 2 := by omega
        have l2 : gy ≤ 2 := by omega
        have l3 : hx ≤ 2 := by omega
        have l4 : hy ≤ 2 := by omega
        have e : bothOk gx gy s m hx hy s' m' = true := by
          rw [bothOk, h, h2, decide_eq_true (by omega : (gx : Int) ≤ 2), decide_eq_true (by omega : (gy : Int) ≤ 2), decide_eq_true (by omega : (hx : Int) ≤ 2), decide_eq_true (by omega : (hy : Int) ≤ 2)]; rfl
        have q1 : gx * hx ≤ 2 * 2 := Nat.mul_le_mul l1 l3
        have q2 : gy * hy ≤ 2 * 2 := Nat.mul_le_mul l2 l4
        have wQ : IntKind.i64.wrap ((gx : Int) * hx) = ((gx * hx : Nat) : Int) := by rw [← Int.natCast_mul]; exact w64 (by omega) (by omega)
        have wO : IntKind.i64.wrap ((gy : Int) * hy) = ((gy * hy : Nat) : Int) := by rw [← Int.natCast_mul]; exact w64 (by omega) (by omega)
        have wL : shl .i64 1 (IntKind.i64.wrap (2 * ((gx * hx : Nat) : Int))) = ((2 ^ (2 * (gx * hx)) : Nat) : Int) := by
          generalize gx * hx = q at q1
          have : q = 0 ∨ q = 1 ∨ q = 2 ∨ q = 3 ∨ q = 4 := by omega
          rcases this with rfl | rfl | rfl | rfl | rfl <;> decide
        have bL : 2 ^ (2 * (gx * hx)) ≤ 256 := by
          have := Nat.pow_le_pow_right (n := 2) (by omega) (show 2 * (gx * hx) ≤ 8 by omega)
          simpa using this
        have fin : bothV gx gy s m hx hy s' m' = bc s s' m m' gy hx hy (gx * hx) (gy * hy) (2 ^ (2 * (gx * hx))) := by rw [bothV, e]; rfl
        generalize hQ : gx * hx = Q at *
        generalize hO : gy * hy = O at *
        generalize 2 ^ (2 * Q) = L at *
        conv => whnf
        refine ADraw.std tyOk mx ⟨by kernel_rfl, ?_⟩
        conv => whnf
        rw [wQ, wO]
        refine ⟨by rw [w64 (by omega) (by omega)]; omega, ?_⟩
        conv => whnf
        rw [wL]
        refine aloopI tyOk mx (fun c : Nat => (⟨149, [(2, .ptr 0 0), (3, .ptr 1 0), (6, .c (.int .i64 (bc s s' m m' gy hx hy Q O c))), (7, .c (.int .i64 (Q))), (8, .c (.int .i64 (O))), (51, .c (.int .i64 (L))), (52, .c (.int .i64 (c)))], [(0, .cells 27 [.c (.int .i64 (gx)), .c (.int .i64 (gy)), .t (.ints .i64 s), .t (.rows m)]), (1, .cells 27 [.c (.int .i64 (hx)), .c (.int .i64 (hy)), .t (.ints .i64 s'), .t (.rows m')])], 2⟩ : St)) (fun c => c ≤ L) (fun c => L - c) 0 (Nat.zero_le _) none (by refine ⟨rfl, rfl, ?_, ?_⟩ <;> ((repeat' (first | exact trivial | exact rfl | refine And.intro ?_ ?_)) <;> (try ((conv => whnf); first | refine vint ?_ | refine vboo ?_ | refine rint ?_ | refine rrow ?_ | skip)) <;> (try first | omega | (simp; done) | ((repeat rw [flts_closed _ (by assumption)]); exact vws_closed _ (by assumption))))) (fun c hc => ?_)
        refine ⟨fun h4 => ?_, fun h4 => ?_⟩
        · have h4 := ltT h4
          conv => whnf
          refine aloopI tyOk mx (fun o : Nat => (⟨149, [(2, .ptr 0 0), (3, .ptr 1 0), (6, .c (.int .i64 (bc s s' m m' gy hx hy Q O c))), (7, .c (.int .i64 (Q))), (8, .c (.int .i64 (O))), (9, .c (.int .i64 (c))), (10, .c (.int .i64 (bo s s' m m' gy hx hy c Q o))), (51, .c (.int .i64 (L))), (52, .c (.int .i64 (c))), (55, .c (.int .i64 (O))), (56, .c (.int .i64 (o)))], [(0, .cells 27 [.c (.int .i64 (gx)), .c (.int .i64 (gy)), .t (.ints .i64 s), .t (.rows m)]), (1, .cells 27 [.c (.int .i64 (hx)), .c (.int .i64 (hy)), .t (.ints .i64 s'), .t (.rows m')])], 2⟩ : St)) (fun o => o ≤ O) (fun o => O - o) 0 (Nat.zero_le _) none (by refine ⟨rfl, rfl, ?_, ?_⟩ <;> ((repeat' (first | exact trivial | exact rfl | refine And.intro ?_ ?_)) <;> (try ((conv => whnf); first | refine vint ?_ | refine vboo ?_ | refine rint ?_ | refine rrow ?_ | skip)) <;> (try first | omega | (simp; done) | ((repeat rw [flts_closed _ (by assumption)]); exact vws_closed _ (by assumption))))) (fun o ho => ?_)
          refine ⟨fun h5 => ?_, fun h5 => ?_⟩
          · have h5 := ltT h5
            conv => whnf
            refine aloopI tyOk mx (fun r : Nat => (⟨149, [(2, .ptr 0 0), (3, .ptr 1 0), (6, .c (.int .i64 (bc s s' m m' gy hx hy Q O c))), (7, .c (.int .i64 (Q))), (8, .c (.int .i64 (O))), (9, .c (.int .i64 (c))), (10, .c (.int .i64 (bo s s' m m' gy hx hy c Q o))), (11, .c (.int .i64 (o))), (12, .c (.int .i64 (brr s s' m m' gy hx hy c o Q r))), (51, .c (.int .i64 (L))), (52, .c (.int .i64 (c))), (55, .c (.int .i64 (O))), (56, .c (.int .i64 (o))), (59, .c (.int .i64 (r)))], [(0, .cells 27 [.c (.int .i64 (gx)), .c (.int .i64 (gy)), .t (.ints .i64 s), .t (.rows m)]), (1, .cells 27 [.c (.int .i64 (hx)), .c (.int .i64 (hy)), .t (.ints .i64 s'), .t (.rows m')])], 2⟩ : St)) (fun r => r ≤ 4) (fun r => 4 - r) 0 (Nat.zero_le _) none (by refine ⟨rfl, rfl, ?_, ?_⟩ <;> ((repeat' (first | exact trivial | exact rfl | refine And.intro ?_ ?_)) <;> (try ((conv => whnf); first | refine vint ?_ | refine vboo ?_ | refine rint ?_ | refine rrow ?_ | skip)) <;> (try first | omega | (simp; done) | ((repeat rw [flts_closed _ (by assumption)]); exact vws_closed _ (by assumption))))) (fun r hr => ?_)
            refine ⟨fun h6 => ?_, fun h6 => ?_⟩
            · have h6 : r < 4 := by have := of_decide_eq_true h6; omega
              conv => whnf
              refine aloopI tyOk mx (fun q : Nat => (⟨149, [(2, .ptr 0 0), (3, .ptr 1 0), (6, .c (.int .i64 (bc s s' m m' gy hx hy Q O c))), (7, .c (.int .i64 (Q))), (8, .c (.int .i64 (O))), (9, .c (.int .i64 (c))), (10, .c (.int .i64 (bo s s' m m' gy hx hy c Q o))), (11, .c (.int .i64 (o))), (12, .c (.int .i64 (brr s s' m m' gy hx hy c o Q r))), (13, .c (.int .i64 (r))), (14, .c (.int .i64 (bq s s' m m' gy hx hy c o r q))), (51, .c (.int .i64 (L))), (52, .c (.int .i64 (c))), (55, .c (.int .i64 (O))), (56, .c (.int .i64 (o))), (59, .c (.int .i64 (r))), (62, .c (.int .i64 (Q))), (63, .c (.int .i64 (q)))], [(0, .cells 27 [.c (.int .i64 (gx)), .c (.int .i64 (gy)), .t (.ints .i64 s), .t (.rows m)]), (1, .cells 27 [.c (.int .i64 (hx)), .c (.int .i64 (hy)), .t (.ints .i64 s'), .t (.rows m')])], 2⟩ : St)) (fun q => q ≤ Q) (fun q => Q - q) 0 (Nat.zero_le _) none (by refine ⟨rfl, rfl, ?_, ?_⟩ <;> ((repeat' (first | exact trivial | exact rfl | refine And.intro ?_ ?_)) <;> (try ((conv => whnf); first | refine vint ?_ | refine vboo ?_ | refine rint ?_ | refine rrow ?_ | skip)) <;> (try first | omega | (simp; done) | ((repeat rw [flts_closed _ (by assumption)]); exact vws_closed _ (by assumption))))) (fun q hq => ?_)
              refine ⟨fun h7 => ?_, fun h7 => ?_⟩
              · have h7 := ltT h7
                have an := qan_bd (c := c) (q := q) (by omega) (by omega)
                conv => whnf
                refine ⟨by rw [w64 (by omega) (by omega)]; omega, ?_⟩
                conv => whnf
                have d1 : q / hx < gx := div_ix (by rw [hQ]; exact h7)
                have d2 : o / hy < gy := div_ix (by rw [hO]; exact h5)
                have d3 : q % hx < hx := Nat.mod_lt _ (by omega)
                have d4 : o % hy < hy := Nat.mod_lt _ (by omega)
                have i1 := ix_lt d1 d2
                have i2 := ix_lt d3 d4
                refine ADraw.std tyOk mx ⟨by kernel_rfl, ?_⟩
                conv => whnf
                refine ⟨by omega, ?_⟩
                conv => whnf
                refine ⟨by omega, ?_⟩
                conv => whnf
                refine ⟨by omega, ?_⟩
                conv => whnf
                refine ⟨by omega, ?_⟩
                conv => whnf
                have eI : IntKind.i64.wrap (IntKind.i64.wrap (IntKind.i64.wrap (Int.tdiv (q : Int) (hx : Int)) * (gy : Int)) + IntKind.i64.wrap (Int.tdiv (o : Int) (hy : Int))) = ((q / hx * gy + o / hy : Nat) : Int) := by
                  rw [tdiv_nat q hx (by omega), tdiv_nat o hy (by omega), natMulAdd (by omega)]
                have eJ : IntKind.i64.wrap (IntKind.i64.wrap (Int.tmod (q : Int) (hx : Int) * (hy : Int)) + Int.tmod (o : Int) (hy : Int)) = ((q % hx * hy + o % hy : Nat) : Int) := by
                  rw [tmod_nat, tmod_nat, natMulAdd (by omega)]
                have r1 := (k10 _ (getD_mem (d := []) (k := q % hx * hy + o % hy) (by omega))).1
                have r2 := (g10 _ (getD_mem (d := []) (k := q / hx * gy + o / hy) (by omega))).1
                refine ADraw.std tyOk mx ⟨by kernel_rfl, ?_⟩
                conv => whnf
                refine ⟨_, eI, by omega, ?_⟩
                conv => whnf
                refine ⟨_, eJ, by omega, ?_⟩
                conv => whnf
                refine ⟨_, eI, by omega, ?_⟩
                conv => whnf
                refine ⟨by decide, ?_⟩
                conv => whnf
                refine ⟨_, ixA_i an.1 an.2 h6, by rw [r2]; exact ixA_lt an.1 an.2 h6, ?_⟩
                conv => whnf
                refine ⟨_, eJ, by omega, ?_⟩
                conv => whnf
                refine ⟨by decide, ?_⟩
                conv => whnf
                refine ⟨_, ixB_i an.1 an.2 h6, by rw [r1]; exact ixB_lt an.1 an.2 h6, ?_⟩
                conv => whnf
                rw [nat_wrap (by omega)]
                exact ⟨q + 1, none, (by refine ⟨rfl, rfl, ?_, ?_⟩ <;> ((repeat' (first | exact trivial | exact rfl | refine And.intro ?_ ?_)) <;> (try ((conv => whnf); first | refine vint ?_ | refine vboo ?_ | refine rint ?_ | refine rrow ?_ | skip)) <;> (try first | omega | (simp; done) | ((repeat rw [flts_closed _ (by assumption)]); exact vws_closed _ (by assumption))))), by omega, by omega⟩
              · have h7 := ltF h7
                obtain rfl : q = Q := by omega
                conv => whnf
                rw [nat_wrap (by omega)]
                exact ⟨r + 1, none, (by refine ⟨rfl, rfl, ?_, ?_⟩ <;> ((repeat' (first | exact trivial | exact rfl | refine And.intro ?_ ?_)) <;> (try ((conv => whnf); first | refine vint ?_ | refine vboo ?_ | refine rint ?_ | refine rrow ?_ | skip)) <;> (try first | omega | (simp; done) | ((repeat rw [flts_closed _ (by assumption)]); exact vws_closed _ (by assumption))))), by omega, by omega⟩
            · have h6 : 4 ≤ r := by have := of_decide_eq_false h6; omega
              obtain rfl : r = 4 := by omega
              conv => whnf
              rw [nat_wrap (by omega)]
              exact ⟨o + 1, none, (by refine ⟨rfl, rfl, ?_, ?_⟩ <;> ((repeat' (first | exact trivial | exact rfl | refine And.intro ?_ ?_)) <;> (try ((conv => whnf); first | refine vint ?_ | refine vboo ?_ | refine rint ?_ | refine rrow ?_ | skip)) <;> (try first | omega | (simp; done) | ((repeat rw [flts_closed _ (by assumption)]); exact vws_closed _ (by assumption))))), by omega, by omega⟩
          · have h5 := ltF h5
            obtain rfl : o = O := by omega
            conv => whnf
            rw [nat_wrap (by omega)]
            exact ⟨c + 1, none, (by refine ⟨rfl, rfl, ?_, ?_⟩ <;> ((repeat' (first | exact trivial | exact rfl | refine And.intro ?_ ?_)) <;> (try ((conv => whnf); first | refine vint ?_ | refine vboo ?_ | refine rint ?_ | refine rrow ?_ | skip)) <;> (try first | omega | (simp; done) | ((repeat rw [flts_closed _ (by assumption)]); exact vws_closed _ (by assumption))))), by omega, by omega⟩
        · have h4 := ltF h4
          obtain rfl : c = L := by omega
          conv => whnf
          exact ⟨by rw [fin, e], rfl⟩
    · have h2 : goodG x' y' s' m' = false := by simpa using h2
      have e : bothOk x y s m x' y' s' m' = false := by rw [bothOk, h2]; simp
      conv => whnf
      (repeat (conv => whnf); (first | refine ⟨fun h => absurd h (by decide), fun _ => ?_⟩ | refine ⟨fun _ => ?_, fun h => absurd h (by decide)⟩)); conv => whnf
      exact ⟨by rw [no e, e], rfl⟩
  · have h : goodG x y s m = false := by simpa using h
    have e : bothOk x y s m x' y' s' m' = false := by rw [bothOk, h]; simp
    conv => whnf
    (repeat (conv => whnf); (first | refine ⟨fun h => absurd h (by decide), fun _ => ?_⟩ | refine ⟨fun _ => ?_, fun h => absurd h (by decide)⟩)); conv => whnf
    exact ⟨by rw [no e, e], rfl⟩
end Go.Proofs.Ytpakfehinfcdoaa
