/- The value of two games at once: the reference. -/
import Derived.Test.YtpakfehinfcdoaaBoth
namespace Go.Aw
section
variable (s s' : List Int) (m m' : List (List Int)) (gy hx hy : Nat) (p : List Int) (y z : Nat)
def rw1 (r : Nat) (a : Int) (x n : Nat) : Int := fo (fun a w => W (a + btm s s' m m' (x * gy + y) (w * hy + z) (p.getD (x * hx + w) 0) r)) a n
def rw2 (r n : Nat) : Int := fo (fun a x => rw1 s s' m m' gy hx hy p y z r a x hx) 0 n
def rw3 (gx n : Nat) : Int := fo (fun b r => mx2 b (rw2 s s' m m' gy hx hy p y z r gx)) 0 n
end
def firstL (c n : Nat) : List Int := (List.range n).map (qan c)
section
variable (s s' : List Int) (m m' : List (List Int)) (gx gy hx hy : Nat) (p : List Int)
def sm1 (a : Int) (y n : Nat) : Int := fo (fun a z => W (a + rw3 s s' m m' gy hx hy p y z gx 4)) a n
def sm2 (n : Nat) : Int := fo (fun a y => sm1 s s' m m' gx gy hx hy p a y hy) 0 n
end
def sbc (s s' : List Int) (m m' : List (List Int)) (gx gy hx hy n : Nat) : Int := fo (fun b c => mx2 b (sm2 s s' m m' gx gy hx hy (firstL c (gx * hx)) gy)) 0 n

theorem rw3_eq (s s' : List Int) (m m' : List (List Int)) (gx gy hx hy c y z : Nat) (hhx : 0 < hx) (hz : z < hy) (n : Nat) :
    rw3 s s' m m' gy hx hy (firstL c (gx * hx)) y z gx n = brr s s' m m' gy hx hy c (y * hy + z) (gx * hx) n := by
  refine fo_congr fun b r _ => ?_
  congr 1
  unfold bq
  rw [← fo_flat (fun a q => W (a + btm s s' m m' (q / hx * gy + (y * hy + z) / hy) (q % hx * hy + (y * hy + z) % hy) (qan c q) r)) hx 0 gx]
  refine fo_congr fun a x hx' => ?_
  refine fo_congr fun a w hw => ?_
  have hlt := ix_lt hx' hw
  have e1 : (x * hx + w) / hx = x := by rw [Nat.add_comm, Nat.add_mul_div_right _ _ hhx, Nat.div_eq_of_lt hw, Nat.zero_add]
  have e2 : (x * hx + w) % hx = w := by rw [Nat.add_comm, Nat.add_mul_mod_self_right, Nat.mod_eq_of_lt hw]
  have e3 : (y * hy + z) / hy = y := by rw [Nat.add_comm, Nat.add_mul_div_right _ _ (by omega), Nat.div_eq_of_lt hz, Nat.zero_add]
  have e4 : (y * hy + z) % hy = z := by rw [Nat.add_comm, Nat.add_mul_mod_self_right, Nat.mod_eq_of_lt hz]
  rw [e1, e2, e3, e4, firstL, range_getD hlt]
theorem sbc_eq (s s' : List Int) (m m' : List (List Int)) (gx gy hx hy n : Nat) (hhx : 0 < hx) :
    sbc s s' m m' gx gy hx hy n = bc s s' m m' gy hx hy (gx * hx) (gy * hy) n := by
  refine fo_congr fun b c _ => ?_
  congr 1
  unfold bo
  rw [← fo_flat (fun a o => W (a + brr s s' m m' gy hx hy c o (gx * hx) 4)) hy 0 gy]
  refine fo_congr fun a y _ => ?_
  refine fo_congr fun a z hz => ?_
  rw [rw3_eq s s' m m' gx gy hx hy c y z hhx hz 4]
end Go.Aw
namespace Go.Proofs.Ytpakfehinfcdoaa
open Go.Aw
set_option maxRecDepth 100000
set_option maxHeartbeats 4000000

theorem l1Max_spec (a b : Int) : FSpec Try.prog 27 [.c (.int .i64 a), .c (.int .i64 b)] (ex (.c (.int .i64 (mx2 a b))) []) := by
  refine fspec tyOk mx Try.func27 rfl (by kernel_rfl) rfl ?_
  conv => whnf
  refine ⟨fun h => ?_, fun h => ?_⟩
  · have h := of_decide_eq_true h
    conv => whnf
    exact ⟨by rw [← mx2_gt, if_pos h], rfl⟩
  · have h := of_decide_eq_false h
    conv => whnf
    exact ⟨by rw [← mx2_gt, if_neg h], rfl⟩

theorem l4Replies_spec (gx gy hx hy : Nat) (s s' : List Int) (m m' : List (List Int)) (p : List Int) (y z : Nat) (a1 : gx ≤ 2) (a2 : gy ≤ 2) (a3 : hx ≤ 2) (a4 : hy ≤ 2) (hyy : y < gy) (hzz : z < hy)
    (b1 : s.length = gx * gy) (b2 : m.length = gx * gy) (b3 : s'.length = hx * hy) (b4 : m'.length = hx * hy) (hp : p.length = gx * hx) (hv : ∀ v, v ∈ p → 0 ≤ v ∧ v ≤ 3)
    (c1 : ∀ r, r ∈ m → r.length = 4) (c2 : ∀ r, r ∈ m' → r.length = 4) :
    FSpec Try.prog 26 [.ag [.c (.int .i64 (gx)), .c (.int .i64 (gy)), .t (.ints .i64 s), .t (.rows m)], .ag [.c (.int .i64 (hx)), .c (.int .i64 (hy)), .t (.ints .i64 s'), .t (.rows m')], .t (.ints .i64 p), .c (.int .i64 (y)), .c (.int .i64 (z))] (ex (.c (.int .i64 (rw3 s s' m m' gy hx hy p y z gx 4))) []) := by
  have q1 : gx * hx ≤ 2 * 2 := Nat.mul_le_mul a1 a3
  have q2 : gx * gy ≤ 2 * 2 := Nat.mul_le_mul a1 a2
  have q3 : hx * hy ≤ 2 * 2 := Nat.mul_le_mul a3 a4
  refine fspec tyOk mx Try.func26 rfl (by kernel_rfl) rfl ?_
  conv => whnf
  refine aloopI tyOk mx (fun r : Nat => (⟨65, [(2, .t (.ints .i64 p)), (3, .c (.int .i64 (y))), (4, .c (.int .i64 (z))), (5, .ptr 0 0), (6, .ptr 1 0), (11, .c (.int .i64 (rw3 s s' m m' gy hx hy p y z gx r))), (12, .c (.int .i64 (r)))], [(0, .cells 27 [.c (.int .i64 (gx)), .c (.int .i64 (gy)), .t (.ints .i64 s), .t (.rows m)]), (1, .cells 27 [.c (.int .i64 (hx)), .c (.int .i64 (hy)), .t (.ints .i64 s'), .t (.rows m')])], 2⟩ : St)) (fun r => r ≤ 4) (fun r => 4 - r) 0 (Nat.zero_le _) none (by refine ⟨rfl, rfl, ?_, ?_⟩ <;> ((repeat' (first | exact trivial | exact rfl | refine And.intro ?_ ?_)) <;> (try ((conv => whnf); first | refine vint ?_ | refine vboo ?_ | refine rint ?_ | refine rrow ?_ | skip)) <;> (try first | omega | (simp; done) | ((repeat rw [flts_closed _ (by assumption)]); exact vws_closed _ (by assumption))))) (fun r hr => ?_)
  refine ⟨fun h6 => ?_, fun h6 => ?_⟩
  · have h6 : r < 4 := by have := of_decide_eq_true h6; omega
    conv => whnf
    refine aloopI tyOk mx (fun x : Nat => (⟨65, [(2, .t (.ints .i64 p)), (3, .c (.int .i64 (y))), (4, .c (.int .i64 (z))), (5, .ptr 0 0), (6, .ptr 1 0), (11, .c (.int .i64 (rw3 s s' m m' gy hx hy p y z gx r))), (12, .c (.int .i64 (r))), (13, .c (.int .i64 (rw2 s s' m m' gy hx hy p y z r x))), (14, .c (.int .i64 (x)))], [(0, .cells 27 [.c (.int .i64 (gx)), .c (.int .i64 (gy)), .t (.ints .i64 s), .t (.rows m)]), (1, .cells 27 [.c (.int .i64 (hx)), .c (.int .i64 (hy)), .t (.ints .i64 s'), .t (.rows m')])], 2⟩ : St)) (fun x => x ≤ gx) (fun x => gx - x) 0 (Nat.zero_le _) none (by refine ⟨rfl, rfl, ?_, ?_⟩ <;> ((repeat' (first | exact trivial | exact rfl | refine And.intro ?_ ?_)) <;> (try ((conv => whnf); first | refine vint ?_ | refine vboo ?_ | refine rint ?_ | refine rrow ?_ | skip)) <;> (try first | omega | (simp; done) | ((repeat rw [flts_closed _ (by assumption)]); exact vws_closed _ (by assumption))))) (fun x hx' => ?_)
    refine ⟨fun h7 => ?_, fun h7 => ?_⟩
    · have h7 := ltT h7
      have i1 := ix_lt h7 hyy
      conv => whnf
      refine aloopI tyOk mx (fun w : Nat => (⟨65, [(2, .t (.ints .i64 p)), (3, .c (.int .i64 (y))), (4, .c (.int .i64 (z))), (5, .ptr 0 0), (6, .ptr 1 0), (11, .c (.int .i64 (rw3 s s' m m' gy hx hy p y z gx r))), (12, .c (.int .i64 (r))), (13, .c (.int .i64 (rw1 s s' m m' gy hx hy p y z r (rw2 s s' m m' gy hx hy p y z r x) x w))), (14, .c (.int .i64 (x))), (15, .c (.int .i64 (w)))], [(0, .cells 27 [.c (.int .i64 (gx)), .c (.int .i64 (gy)), .t (.ints .i64 s), .t (.rows m)]), (1, .cells 27 [.c (.int .i64 (hx)), .c (.int .i64 (hy)), .t (.ints .i64 s'), .t (.rows m')])], 2⟩ : St)) (fun w => w ≤ hx) (fun w => hx - w) 0 (Nat.zero_le _) none (by refine ⟨rfl, rfl, ?_, ?_⟩ <;> ((repeat' (first | exact trivial | exact rfl | refine And.intro ?_ ?_)) <;> (try ((conv => whnf); first | refine vint ?_ | refine vboo ?_ | refine rint ?_ | refine rrow ?_ | skip)) <;> (try first | omega | (simp; done) | ((repeat rw [flts_closed _ (by assumption)]); exact vws_closed _ (by assumption))))) (fun w hw => ?_)
      refine ⟨fun h8 => ?_, fun h8 => ?_⟩
      · have h8 := ltT h8
        have i2 := ix_lt h8 hzz
        have i3 := ix_lt h7 h8
        have an := hv _ (getD_mem (d := 0) (k := x * hx + w) (by omega))
        have r1 := c1 _ (getD_mem (d := []) (k := x * gy + y) (by omega))
        have r2 := c2 _ (getD_mem (d := []) (k := w * hy + z) (by omega))
        conv => whnf
        refine ⟨_, natMulAdd (by omega), by omega, ?_⟩
        conv => whnf
        refine ADraw.std tyOk mx ⟨by kernel_rfl, ?_⟩
        conv => whnf
        refine ⟨by decide, ?_⟩
        conv => whnf
        refine ⟨by decide, ?_⟩
        conv => whnf
        refine QCall.use (l4Won_spec gx gy x y (ixA (p.getD (x * hx + w) 0) r) s m _ _ (by omega) (by omega) (by omega) (ixA_s an.1 an.2 h6) (by rw [r1]; exact ixA_lt an.1 an.2 h6)) ?_
        conv => whnf
        refine QCall.use (l4Won_spec hx hy w z (ixB (p.getD (x * hx + w) 0) r) s' m' _ _ (by omega) (by omega) (by omega) (ixB_s an.1 an.2 h6) (by rw [r2]; exact ixB_lt an.1 an.2 h6)) ?_
        conv => whnf
        rw [nat_wrap (by omega)]
        refine ⟨w + 1, none, ?_, by omega, by omega⟩
        dsimp only
        have e : rw1 s s' m m' gy hx hy p y z r (rw2 s s' m m' gy hx hy p y z r x) x (w + 1) = W (rw1 s s' m m' gy hx hy p y z r (rw2 s s' m m' gy hx hy p y z r x) x w + W (W (s.getD (x * gy + y) 0 * (m.getD (x * gy + y) []).getD (ixA (p.getD (x * hx + w) 0) r) 0) * W (s'.getD (w * hy + z) 0 * (m'.getD (w * hy + z) []).getD (ixB (p.getD (x * hx + w) 0) r) 0))) := by rw [btm_eq]; rfl
        rw [e]
        (refine ⟨rfl, rfl, ?_, ?_⟩ <;> ((repeat' (first | exact trivial | exact rfl | refine And.intro ?_ ?_)) <;> (try ((conv => whnf); first | refine vint ?_ | refine vboo ?_ | refine rint ?_ | refine rrow ?_ | skip)) <;> (try first | omega | (simp; done) | ((repeat rw [flts_closed _ (by assumption)]); exact vws_closed _ (by assumption)))))
      · have h8 := ltF h8
        obtain rfl : w = hx := by omega
        conv => whnf
        rw [nat_wrap (by omega)]
        exact ⟨x + 1, none, (by refine ⟨rfl, rfl, ?_, ?_⟩ <;> ((repeat' (first | exact trivial | exact rfl | refine And.intro ?_ ?_)) <;> (try ((conv => whnf); first | refine vint ?_ | refine vboo ?_ | refine rint ?_ | refine rrow ?_ | skip)) <;> (try first | omega | (simp; done) | ((repeat rw [flts_closed _ (by assumption)]); exact vws_closed _ (by assumption))))), by omega, by omega⟩
    · have h7 := ltF h7
      obtain rfl : x = gx := by omega
      conv => whnf
      refine ACall.use (l1Max_spec _ _) ?_
      conv => whnf
      rw [nat_wrap (by omega)]
      exact ⟨r + 1, none, (by refine ⟨rfl, rfl, ?_, ?_⟩ <;> ((repeat' (first | exact trivial | exact rfl | refine And.intro ?_ ?_)) <;> (try ((conv => whnf); first | refine vint ?_ | refine vboo ?_ | refine rint ?_ | refine rrow ?_ | skip)) <;> (try first | omega | (simp; done) | ((repeat rw [flts_closed _ (by assumption)]); exact vws_closed _ (by assumption))))), by omega, by omega⟩
  · have h6 : 4 ≤ r := by have := of_decide_eq_false h6; omega
    obtain rfl : r = 4 := by omega
    conv => whnf
    exact ⟨rfl, rfl⟩

theorem BothValue_s (x y : Int) (s : List Int) (m : List (List Int)) (_hx : InR x) (_hy : InR y) (_hs : OkI s) (_hm : OkM m) (ks : SzI s) (km : SzM m) (x' y' : Int) (s' : List Int) (m' : List (List Int)) (_hx' : InR x') (_hy' : InR y') (_hs' : OkI s') (_hm' : OkM m') (ks' : SzI s') (km' : SzM m') :
    FSpec Try.prog 8 [.ag [.c (.int .i64 (x)), .c (.int .i64 (y)), .t (.ints .i64 s), .t (.rows m)], .ag [.c (.int .i64 (x')), .c (.int .i64 (y')), .t (.ints .i64 s'), .t (.rows m')]] (ex (.tu [.c (.int .i64 (bothV x y s m x' y' s' m')), .c (.bool (bothOk x y s m x' y' s' m'))]) []) := by
  have no : bothOk x y s m x' y' s' m' = false → bothV x y s m x' y' s' m' = 0 := fun e => by rw [bothV, e]; rfl
  refine fspec tyOk mx Try.func8 rfl (by kernel_rfl) rfl ?_
  conv => whnf
  refine ACall.use (l4Game_spec x y s m ks km) ?_
  refine ⟨fun h => ?_, fun h => ?_⟩
  · have h : goodG x y s m = true := by simpa using h
    conv => whnf
    refine ACall.use (l4Game_spec x' y' s' m' ks' km') ?_
    conv => whnf
    refine ⟨fun h2 => ?_, fun h2 => ?_⟩
    · have h2 : goodG x' y' s' m' = true := by simpa using h2
      obtain ⟨gx, gy, rfl, rfl, g1, g2, g3, g4, g5, g6, g7, g8, g9, g10⟩ := goodG_spec h
      obtain ⟨hx, hy, rfl, rfl, k1, k2, k3, k4, k5, k6, k7, k8, k9, k10⟩ := goodG_spec h2
      have c1 : ∀ r, r ∈ m → r.length = 4 := fun r hr => (g10 r hr).1
      have c2 : ∀ r, r ∈ m' → r.length = 4 := fun r hr => (k10 r hr).1
      have bad : ¬ (gx ≤ 2 ∧ gy ≤ 2 ∧ hx ≤ 2 ∧ hy ≤ 2) → bothOk gx gy s m hx hy s' m' = false := fun hn => by
        rw [bothOk, h, h2]
        by_cases a1 : gx ≤ 2 <;> by_cases a2 : gy ≤ 2 <;> by_cases a3 : hx ≤ 2 <;> by_cases a4 : hy ≤ 2 <;> first | (exfalso; omega) | simp <;> omega
      conv => whnf
      refine ⟨fun h3 => ?_, fun h3 => ?_⟩
      · have l1 := of_decide_eq_false h3
        conv => whnf
        refine ⟨fun h3 => ?_, fun h3 => ?_⟩
        · have l2 := of_decide_eq_false h3
          conv => whnf
          refine ⟨fun h3 => ?_, fun h3 => ?_⟩
          · have l3 := of_decide_eq_false h3
            conv => whnf
            refine ⟨fun h3 => ?_, fun h3 => ?_⟩
            · have e := bad (by have := of_decide_eq_true h3; omega)
              conv => whnf
              exact ⟨by rw [no e, e], rfl⟩
            · have l4 := of_decide_eq_false h3
              have e : bothOk gx gy s m hx hy s' m' = true := by
                rw [bothOk, h, h2, decide_eq_true (by omega : (gx : Int) ≤ 2), decide_eq_true (by omega : (gy : Int) ≤ 2), decide_eq_true (by omega : (hx : Int) ≤ 2), decide_eq_true (by omega : (hy : Int) ≤ 2)]; rfl
              have n1 : gx ≤ 2 := by omega
              have n2 : gy ≤ 2 := by omega
              have n3 : hx ≤ 2 := by omega
              have n4 : hy ≤ 2 := by omega
              have q1 : gx * hx ≤ 2 * 2 := Nat.mul_le_mul n1 n3
              have wQ : IntKind.i64.wrap ((gx : Int) * hx) = ((gx * hx : Nat) : Int) := by rw [← Int.natCast_mul]; exact w64 (by omega) (by omega)
              have wN : IntKind.i64.wrap (IntKind.i64.wrap (2 * (gx : Int)) * hx) = ((2 * (gx * hx) : Nat) : Int) := by
                rw [w64 (n := 2 * (gx : Int)) (by omega) (by omega), Int.mul_assoc, ← Int.natCast_mul]; exact w64 (by omega) (by omega)
              have wL : shl .i64 1 (IntKind.i64.wrap (IntKind.i64.wrap (2 * (gx : Int)) * hx)) = ((2 ^ (2 * (gx * hx)) : Nat) : Int) := by
                rw [wN]
                generalize gx * hx = q at q1
                have : q = 0 ∨ q = 1 ∨ q = 2 ∨ q = 3 ∨ q = 4 := by omega
                rcases this with rfl | rfl | rfl | rfl | rfl <;> decide
              have bL : 2 ^ (2 * (gx * hx)) ≤ 256 := by
                have := Nat.pow_le_pow_right (n := 2) (by omega) (show 2 * (gx * hx) ≤ 8 by omega)
                simpa using this
              have fin : bothV gx gy s m hx hy s' m' = sbc s s' m m' gx gy hx hy (2 ^ (2 * (gx * hx))) := by rw [bothV, e, sbc_eq _ _ _ _ _ _ _ _ _ (by omega)]; rfl
              generalize hL : 2 ^ (2 * (gx * hx)) = L at *
              conv => whnf
              refine aloopI tyOk mx (fun c : Nat => (⟨94, [(2, .ptr 0 0), (3, .ptr 1 0), (6, .c (.int .i64 (sbc s s' m m' gx gy hx hy c))), (7, .c (.int .i64 (c)))], [(0, .cells 27 [.c (.int .i64 (gx)), .c (.int .i64 (gy)), .t (.ints .i64 s), .t (.rows m)]), (1, .cells 27 [.c (.int .i64 (hx)), .c (.int .i64 (hy)), .t (.ints .i64 s'), .t (.rows m')])], 2⟩ : St)) (fun c => c ≤ L) (fun c => L - c) 0 (Nat.zero_le _) none (by refine ⟨rfl, rfl, ?_, ?_⟩ <;> ((repeat' (first | exact trivial | exact rfl | refine And.intro ?_ ?_)) <;> (try ((conv => whnf); first | refine vint ?_ | refine vboo ?_ | refine rint ?_ | refine rrow ?_ | skip)) <;> (try first | omega | (simp; done) | ((repeat rw [flts_closed _ (by assumption)]); exact vws_closed _ (by assumption))))) (fun c hc => ?_)
              refine ⟨by rw [wN]; omega, fun h4 => ?_, fun h4 => ?_⟩
              · have h4 : c < L := by have := of_decide_eq_true h4; rw [wL] at this; omega
                conv => whnf
                refine aloopI tyOk mx (fun i : Nat => (⟨94, [(2, .ptr 0 0), (3, .ptr 1 0), (6, .c (.int .i64 (sbc s s' m m' gx gy hx hy c))), (7, .c (.int .i64 (c))), (8, .own 2), (9, .c (.int .i64 (i)))], [(0, .cells 27 [.c (.int .i64 (gx)), .c (.int .i64 (gy)), .t (.ints .i64 s), .t (.rows m)]), (1, .cells 27 [.c (.int .i64 (hx)), .c (.int .i64 (hy)), .t (.ints .i64 s'), .t (.rows m')]), (2, .ints 3 .i64 (firstL c i))], 3⟩ : St)) (fun i => i ≤ gx * hx) (fun i => gx * hx - i) 0 (Nat.zero_le _) none (by refine ⟨rfl, rfl, ?_, ?_⟩ <;> ((repeat' (first | exact trivial | exact rfl | refine And.intro ?_ ?_)) <;> (try ((conv => whnf); first | refine vint ?_ | refine vboo ?_ | refine rint ?_ | refine rrow ?_ | skip)) <;> (try first | omega | (simp; done) | ((repeat rw [flts_closed _ (by assumption)]); exact vws_closed _ (by assumption))))) (fun i hi => ?_)
                refine ⟨fun h5 => ?_, fun h5 => ?_⟩
                · have h5 : i < gx * hx := by have := of_decide_eq_true h5; rw [wQ] at this; omega
                  conv => whnf
                  refine ⟨by rw [w64 (by omega) (by omega)]; omega, ?_⟩
                  conv => whnf
                  refine ⟨by simp [room, firstL]; omega, ?_⟩
                  conv => whnf
                  rw [nat_wrap (by omega)]
                  refine ⟨i + 1, none, ?_, by omega, by omega⟩
                  dsimp only
                  rw [show firstL c (i + 1) = firstL c i ++ [qan c i] from (map_range_succ _ _).symm]
                  (refine ⟨rfl, rfl, ?_, ?_⟩ <;> ((repeat' (first | exact trivial | exact rfl | refine And.intro ?_ ?_)) <;> (try ((conv => whnf); first | refine vint ?_ | refine vboo ?_ | refine rint ?_ | refine rrow ?_ | skip)) <;> (try first | omega | (simp; done) | ((repeat rw [flts_closed _ (by assumption)]); exact vws_closed _ (by assumption)))))
                · have h5 : ¬ i < gx * hx := by have := of_decide_eq_false h5; rw [wQ] at this; omega
                  obtain rfl : i = gx * hx := by omega
                  have fl : (firstL c (gx * hx)).length = gx * hx := by simp [firstL]
                  have fv : ∀ v, v ∈ firstL c (gx * hx) → 0 ≤ v ∧ v ≤ 3 := fun v hv => by
                    obtain ⟨i, hi, rfl⟩ := List.mem_map.1 hv
                    have hi := List.mem_range.1 hi
                    exact qan_bd (by omega) (by omega)
                  conv => whnf
                  refine aloopI tyOk mx (fun y : Nat => (⟨94, [(2, .ptr 0 0), (3, .ptr 1 0), (6, .c (.int .i64 (sbc s s' m m' gx gy hx hy c))), (7, .c (.int .i64 (c))), (8, .own 2), (10, .c (.int .i64 (sm2 s s' m m' gx gy hx hy (firstL c (gx * hx)) y))), (11, .c (.int .i64 (y)))], [(0, .cells 27 [.c (.int .i64 (gx)), .c (.int .i64 (gy)), .t (.ints .i64 s), .t (.rows m)]), (1, .cells 27 [.c (.int .i64 (hx)), .c (.int .i64 (hy)), .t (.ints .i64 s'), .t (.rows m')]), (2, .ints 3 .i64 (firstL c (gx * hx)))], 3⟩ : St)) (fun y => y ≤ gy) (fun y => gy - y) 0 (Nat.zero_le _) none (by refine ⟨rfl, rfl, ?_, ?_⟩ <;> ((repeat' (first | exact trivial | exact rfl | refine And.intro ?_ ?_)) <;> (try ((conv => whnf); first | refine vint ?_ | refine vboo ?_ | refine rint ?_ | refine rrow ?_ | skip)) <;> (try first | omega | (simp; done) | ((repeat rw [flts_closed _ (by assumption)]); exact vws_closed _ (by assumption))))) (fun y hy' => ?_)
                  refine ⟨fun h6 => ?_, fun h6 => ?_⟩
                  · have h6 := ltT h6
                    conv => whnf
                    refine aloopI tyOk mx (fun z : Nat => (⟨94, [(2, .ptr 0 0), (3, .ptr 1 0), (6, .c (.int .i64 (sbc s s' m m' gx gy hx hy c))), (7, .c (.int .i64 (c))), (8, .own 2), (10, .c (.int .i64 (sm1 s s' m m' gx gy hx hy (firstL c (gx * hx)) (sm2 s s' m m' gx gy hx hy (firstL c (gx * hx)) y) y z))), (11, .c (.int .i64 (y))), (12, .c (.int .i64 (z)))], [(0, .cells 27 [.c (.int .i64 (gx)), .c (.int .i64 (gy)), .t (.ints .i64 s), .t (.rows m)]), (1, .cells 27 [.c (.int .i64 (hx)), .c (.int .i64 (hy)), .t (.ints .i64 s'), .t (.rows m')]), (2, .ints 3 .i64 (firstL c (gx * hx)))], 3⟩ : St)) (fun z => z ≤ hy) (fun z => hy - z) 0 (Nat.zero_le _) none (by refine ⟨rfl, rfl, ?_, ?_⟩ <;> ((repeat' (first | exact trivial | exact rfl | refine And.intro ?_ ?_)) <;> (try ((conv => whnf); first | refine vint ?_ | refine vboo ?_ | refine rint ?_ | refine rrow ?_ | skip)) <;> (try first | omega | (simp; done) | ((repeat rw [flts_closed _ (by assumption)]); exact vws_closed _ (by assumption))))) (fun z hz => ?_)
                    refine ⟨fun h7 => ?_, fun h7 => ?_⟩
                    · have h7 := ltT h7
                      conv => whnf
                      refine ACall.use (l4Replies_spec gx gy hx hy s s' m m' (firstL c (gx * hx)) y z n1 n2 n3 n4 h6 h7 g5 g6 k5 k6 fl fv c1 c2) ?_
                      conv => whnf
                      rw [nat_wrap (by omega)]
                      exact ⟨z + 1, none, (by refine ⟨rfl, rfl, ?_, ?_⟩ <;> ((repeat' (first | exact trivial | exact rfl | refine And.intro ?_ ?_)) <;> (try ((conv => whnf); first | refine vint ?_ | refine vboo ?_ | refine rint ?_ | refine rrow ?_ | skip)) <;> (try first | omega | (simp; done) | ((repeat rw [flts_closed _ (by assumption)]); exact vws_closed _ (by assumption))))), by omega, by omega⟩
                    · have h7 := ltF h7
                      obtain rfl : z = hy := by omega
                      conv => whnf
                      rw [nat_wrap (by omega)]
                      exact ⟨y + 1, none, (by refine ⟨rfl, rfl, ?_, ?_⟩ <;> ((repeat' (first | exact trivial | exact rfl | refine And.intro ?_ ?_)) <;> (try ((conv => whnf); first | refine vint ?_ | refine vboo ?_ | refine rint ?_ | refine rrow ?_ | skip)) <;> (try first | omega | (simp; done) | ((repeat rw [flts_closed _ (by assumption)]); exact vws_closed _ (by assumption))))), by omega, by omega⟩
                  · have h6 := ltF h6
                    obtain rfl : y = gy := by omega
                    conv => whnf
                    refine ACall.use (l1Max_spec _ _) ?_
                    conv => whnf
                    rw [nat_wrap (by omega)]
                    exact ⟨c + 1, none, (by refine ⟨rfl, rfl, ?_, ?_⟩ <;> ((repeat' (first | exact trivial | exact rfl | refine And.intro ?_ ?_)) <;> (try ((conv => whnf); first | refine vint ?_ | refine vboo ?_ | refine rint ?_ | refine rrow ?_ | skip)) <;> (try first | omega | (simp; done) | ((repeat rw [flts_closed _ (by assumption)]); exact vws_closed _ (by assumption))))), by omega, by omega⟩
              · have h4 : ¬ c < L := by have := of_decide_eq_false h4; rw [wL] at this; omega
                obtain rfl : c = L := by omega
                conv => whnf
                exact ⟨by rw [fin, e], rfl⟩
          · have e := bad (by have := of_decide_eq_true h3; omega)
            conv => whnf
            (repeat (conv => whnf); (first | refine ⟨fun h => absurd h (by decide), fun _ => ?_⟩ | refine ⟨fun _ => ?_, fun h => absurd h (by decide)⟩)); conv => whnf
            exact ⟨by rw [no e, e], rfl⟩
        · have e := bad (by have := of_decide_eq_true h3; omega)
          conv => whnf
          (repeat (conv => whnf); (first | refine ⟨fun h => absurd h (by decide), fun _ => ?_⟩ | refine ⟨fun _ => ?_, fun h => absurd h (by decide)⟩)); conv => whnf
          exact ⟨by rw [no e, e], rfl⟩
      · have e := bad (by have := of_decide_eq_true h3; omega)
        conv => whnf
        (repeat (conv => whnf); (first | refine ⟨fun h => absurd h (by decide), fun _ => ?_⟩ | refine ⟨fun _ => ?_, fun h => absurd h (by decide)⟩)); conv => whnf
        exact ⟨by rw [no e, e], rfl⟩
    · have h2 : goodG x' y' s' m' = false := by simpa using h2
      have e : bothOk x y s m x' y' s' m' = false := by rw [bothOk, h2]; simp
      conv => whnf
      (repeat (conv => whnf); (first | refine ⟨fun h => absurd h (by decide), fun _ => ?_⟩ | refine ⟨fun _ => ?_, fun h => absurd h (by decide)⟩)); conv => whnf
      exact ⟨by rw [no e, e], rfl⟩
  · have h : goodG x y s m = false := by simpa using h
    have e : bothOk x y s m x' y' s' m' = false := by rw [bothOk, h]; simp
    conv => whnf
    (repeat (conv => whnf); (first | refine ⟨fun h => absurd h (by decide), fun _ => ?_⟩ | refine ⟨fun _ => ?_, fun h => absurd h (by decide)⟩)); conv => whnf
    exact ⟨by rw [no e, e], rfl⟩
end Go.Proofs.Ytpakfehinfcdoaa
