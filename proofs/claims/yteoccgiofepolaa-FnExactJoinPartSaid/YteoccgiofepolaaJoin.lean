/- Joined parts: what both make, and how boxes are reduced. -/
import Derived.Test.YteoccgiofepolaaRest
namespace Go.Aw
theorem tmodNat (a b : Nat) : Int.tmod (a : Int) (b : Int) = ((a % b : Nat) : Int) := (Int.ofNat_tmod a b).symm
theorem gcd_step (a b : Nat) : Nat.gcd b (a % b) = Nat.gcd a b := by
  rw [Nat.gcd_comm a b, Nat.gcd_rec b a, Nat.gcd_comm]
def gcR (m : List (List Int)) (i g n : Nat) : Nat := fo (fun g n => Nat.gcd g ((m.getD i []).getD n 0).toNat) g n
def gcM (z : Int) (m : List (List Int)) (n : Nat) : Nat := fo (fun g i => gcR m i g 4) z.toNat n
theorem gcR_bd (m : List (List Int)) (i : Nat) {g : Nat} (hg : 0 < g) : ∀ n, 0 < gcR m i g n ∧ gcR m i g n ≤ g
  | 0 => ⟨hg, Nat.le_refl _⟩
  | n + 1 => by
    have ih := gcR_bd m i hg n
    show 0 < Nat.gcd (gcR m i g n) _ ∧ Nat.gcd (gcR m i g n) _ ≤ g
    exact ⟨Nat.gcd_pos_of_pos_left _ ih.1, Nat.le_trans (Nat.gcd_le_left _ ih.1) ih.2⟩
theorem gcM_bd (z : Int) (m : List (List Int)) (hz : 1 ≤ z) : ∀ n, 0 < gcM z m n ∧ gcM z m n ≤ z.toNat
  | 0 => ⟨show 0 < z.toNat by omega, Nat.le_refl _⟩
  | n + 1 => by
    have ih := gcM_bd z m hz n
    have h := gcR_bd m n ih.1 4
    exact ⟨h.1, Nat.le_trans h.2 ih.2⟩
def mixL (m m' : List (List Int)) : List (List Int) := (List.range 4).map fun p => (List.range 4).map fun q => W ((m.getD p []).getD q 0 + (m'.getD p []).getD q 0)
end Go.Aw
namespace Go.Proofs.Yteoccgiofepolaa
open Go.Aw
set_option maxRecDepth 100000
set_option maxHeartbeats 4000000

def jnNum (m : List (List Int)) (k N : Int) (x y a b : Nat) : Int := W ((m.getD (x * 2 + y) []).getD (2 * a + b) 0 + W (N * eqNum k x y a b))
def jnM (m : List (List Int)) (k N : Int) : List (List Int) := boxRows (jnNum m k N) 2 2
def jnW (z N : Int) : Int := W (z + W (2 * N))
def rdNum (m : List (List Int)) (g : Nat) (x y a b : Nat) : Int := W (Int.tdiv ((m.getD (x * 2 + y) []).getD (2 * a + b) 0) g)
def rdM (m : List (List Int)) (g : Nat) : List (List Int) := boxRows (rdNum m g) 2 2
def rdW (z : Int) (g : Nat) : Int := W (Int.tdiv z g)

theorem divisor_spec (a b : Nat) : FSpec Try.prog 77 [.c (.int .i64 (a)), .c (.int .i64 (b))] (ex (.c (.int .i64 (Nat.gcd a b))) []) := by
  refine fspec tyOk mx Try.func77 rfl (by kernel_rfl) rfl ?_
  conv => whnf
  refine aloopI tyOk mx (fun p : Nat × Nat => (⟨12, [(0, .c (.int .i64 (p.1))), (1, .c (.int .i64 (p.2)))], [], 0⟩ : St)) (fun p => Nat.gcd p.1 p.2 = Nat.gcd a b) (fun p => p.2) (a, b) rfl none (by refine ⟨rfl, rfl, ?_, ?_⟩ <;> ((repeat' (first | exact trivial | exact rfl | refine And.intro ?_ ?_)) <;> (try ((conv => whnf); first | refine vint ?_ | refine vboo ?_ | refine rint ?_ | refine rrow ?_ | skip)) <;> (try first | omega | (simp; done) | ((repeat rw [flts_closed _ (by assumption)]); exact vws_closed _ (by assumption))))) (fun p hp => ?_)
  refine ⟨fun h => ?_, fun h => ?_⟩
  · have h : (p.2 : Int) ≠ 0 := by simpa using h
    conv => whnf
    refine ADraw.std tyOk mx ⟨by kernel_rfl, ?_⟩
    conv => whnf
    refine ⟨h, ?_⟩
    conv => whnf
    rw [tmodNat]
    exact ⟨(p.2, p.1 % p.2), none, (by refine ⟨rfl, rfl, ?_, ?_⟩ <;> ((repeat' (first | exact trivial | exact rfl | refine And.intro ?_ ?_)) <;> (try ((conv => whnf); first | refine vint ?_ | refine vboo ?_ | refine rint ?_ | refine rrow ?_ | skip)) <;> (try first | omega | (simp; done) | ((repeat rw [flts_closed _ (by assumption)]); exact vws_closed _ (by assumption))))), by rw [← hp]; exact gcd_step _ _, Nat.mod_lt _ (by omega)⟩
  · have h : (p.2 : Int) = 0 := by simpa using h
    have h : p.2 = 0 := by omega
    conv => whnf
    refine ⟨?_, rfl⟩
    rw [← hp, h, Nat.gcd_zero_right]
theorem l2Gcd_spec (a b : Nat) : FSpec Try.prog 70 [.c (.int .i64 (a)), .c (.int .i64 (b))] (ex (.c (.int .i64 (Nat.gcd a b))) []) := by
  refine fspec tyOk mx Try.func70 rfl (by kernel_rfl) rfl ?_
  conv => whnf
  refine aloopI tyOk mx (fun p : Nat × Nat => (⟨12, [(0, .c (.int .i64 (p.1))), (1, .c (.int .i64 (p.2)))], [], 0⟩ : St)) (fun p => Nat.gcd p.1 p.2 = Nat.gcd a b) (fun p => p.2) (a, b) rfl none (by refine ⟨rfl, rfl, ?_, ?_⟩ <;> ((repeat' (first | exact trivial | exact rfl | refine And.intro ?_ ?_)) <;> (try ((conv => whnf); first | refine vint ?_ | refine vboo ?_ | refine rint ?_ | refine rrow ?_ | skip)) <;> (try first | omega | (simp; done) | ((repeat rw [flts_closed _ (by assumption)]); exact vws_closed _ (by assumption))))) (fun p hp => ?_)
  refine ⟨fun h => ?_, fun h => ?_⟩
  · have h : (p.2 : Int) > 0 := of_decide_eq_true h
    conv => whnf
    refine ADraw.std tyOk mx ⟨by kernel_rfl, ?_⟩
    conv => whnf
    refine ⟨by omega, ?_⟩
    conv => whnf
    rw [tmodNat]
    exact ⟨(p.2, p.1 % p.2), none, (by refine ⟨rfl, rfl, ?_, ?_⟩ <;> ((repeat' (first | exact trivial | exact rfl | refine And.intro ?_ ?_)) <;> (try ((conv => whnf); first | refine vint ?_ | refine vboo ?_ | refine rint ?_ | refine rrow ?_ | skip)) <;> (try first | omega | (simp; done) | ((repeat rw [flts_closed _ (by assumption)]); exact vws_closed _ (by assumption))))), by rw [← hp]; exact gcd_step _ _, Nat.mod_lt _ (by omega)⟩
  · have h := of_decide_eq_false h
    have h : p.2 = 0 := by omega
    conv => whnf
    refine ⟨?_, rfl⟩
    rw [← hp, h, Nat.gcd_zero_right]

theorem l2Reduced_spec (z : Int) (m : List (List Int)) (hb : goodB 2 2 z m = true) :
    FSpec Try.prog 43 [.ag [.c (.int .i64 (2)), .c (.int .i64 (2)), .c (.int .i64 (z)), .t (.rows m)]] (ex (.ag [.c (.int .i64 (2)), .c (.int .i64 (2)), .c (.int .i64 (rdW z (gcM z m 4))), .own 0]) [(0, .rows 44 3 true (rdM m (gcM z m 4)))]) := by
  obtain ⟨na, nb, e1, e2, g1, g2, g3, g4, g5, g6, g7, g8, g9⟩ := goodB_spec hb
  obtain rfl : na = 2 := by omega
  obtain rfl : nb = 2 := by omega
  have h4 : ∀ r, r ∈ m → r.length = 4 := fun r hr => (g9 r hr).1
  have hz0 : z = ((gcM z m 0 : Nat) : Int) := by show z = ((z.toNat : Nat) : Int); omega
  refine fspec tyOk mx Try.func43 rfl (by kernel_rfl) rfl ?_
  conv => whnf
  refine aloopI tyOk mx (fun i : Nat => (⟨32, [(1, .ptr 0 0), (2, .ptr 1 0), (3, .c (.int .i64 (gcM z m i))), (4, .c (.int .i64 (i)))], [(0, .cells 34 [.c (.int .i64 (2)), .c (.int .i64 (2)), .c (.int .i64 (z)), .t (.rows m)]), (1, .cells 34 [.c (.int .i64 (0)), .c (.int .i64 (0)), .c (.int .i64 (0)), .c (.slice none 0 0)])], 2⟩ : St)) (fun i => i ≤ 4) (fun i => 4 - i) 0 (Nat.zero_le _) none (by refine ⟨rfl, rfl, ?_, ?_⟩ <;> ((repeat' (first | exact trivial | exact rfl | refine And.intro ?_ ?_)) <;> (try ((conv => whnf); first | refine vint ?_ | refine vboo ?_ | refine rint ?_ | refine rrow ?_ | skip)) <;> (try first | omega | (simp; done) | ((repeat rw [flts_closed _ (by assumption)]); exact vws_closed _ (by assumption))))) (fun i hi => ?_)
  have bi := gcM_bd z m g5 i
  refine ⟨fun h => ?_, fun h => ?_⟩
  · have h : i < 4 := by have := ltT h; omega
    have hr4 := h4 _ (getD_mem (d := []) (k := i) (by omega))
    have hv := (g9 _ (getD_mem (d := []) (k := i) (by omega))).2.1
    conv => whnf
    refine aloopI tyOk mx (fun n : Nat => (⟨32, [(1, .ptr 0 0), (2, .ptr 1 0), (3, .c (.int .i64 (gcR m i (gcM z m i) n))), (4, .c (.int .i64 (i))), (5, .c (.int .i64 (n)))], [(0, .cells 34 [.c (.int .i64 (2)), .c (.int .i64 (2)), .c (.int .i64 (z)), .t (.rows m)]), (1, .cells 34 [.c (.int .i64 (0)), .c (.int .i64 (0)), .c (.int .i64 (0)), .c (.slice none 0 0)])], 2⟩ : St)) (fun n => n ≤ 4) (fun n => 4 - n) 0 (Nat.zero_le _) none (by refine ⟨rfl, rfl, ?_, ?_⟩ <;> ((repeat' (first | exact trivial | exact rfl | refine And.intro ?_ ?_)) <;> (try ((conv => whnf); first | refine vint ?_ | refine vboo ?_ | refine rint ?_ | refine rrow ?_ | skip)) <;> (try first | omega | (simp; done) | ((repeat rw [flts_closed _ (by assumption)]); exact vws_closed _ (by assumption))))) (fun n hn => ?_)
    refine ⟨fun h5 => ?_, fun h5 => ?_⟩
    · have h5 : n < 4 := by have := of_decide_eq_true h5; omega
      have bv := hv _ (getD_mem (d := 0) (k := n) (by omega))
      have ev : (m.getD i []).getD n 0 = ((((m.getD i []).getD n 0).toNat : Nat) : Int) := by omega
      conv => whnf
      refine ⟨i, rfl, by omega, n, rfl, by omega, ?_⟩
      conv => whnf
      rw [ev]
      refine ACall.use (l2Gcd_spec _ _) ?_
      conv => whnf
      rw [nat_wrap (by omega)]
      exact ⟨n + 1, none, (by refine ⟨rfl, rfl, ?_, ?_⟩ <;> ((repeat' (first | exact trivial | exact rfl | refine And.intro ?_ ?_)) <;> (try ((conv => whnf); first | refine vint ?_ | refine vboo ?_ | refine rint ?_ | refine rrow ?_ | skip)) <;> (try first | omega | (simp; done) | ((repeat rw [flts_closed _ (by assumption)]); exact vws_closed _ (by assumption))))), by omega, by omega⟩
    · have h5 : ¬ n < 4 := by have := of_decide_eq_false h5; omega
      obtain rfl : n = 4 := by omega
      conv => whnf
      rw [nat_wrap (by omega)]
      exact ⟨i + 1, none, (by refine ⟨rfl, rfl, ?_, ?_⟩ <;> ((repeat' (first | exact trivial | exact rfl | refine And.intro ?_ ?_)) <;> (try ((conv => whnf); first | refine vint ?_ | refine vboo ?_ | refine rint ?_ | refine rrow ?_ | skip)) <;> (try first | omega | (simp; done) | ((repeat rw [flts_closed _ (by assumption)]); exact vws_closed _ (by assumption))))), by omega, by omega⟩
  · have h : ¬ i < 4 := by have := ltF h; omega
    obtain rfl : i = 4 := by omega
    have hw : ∀ v : Int, 0 ≤ v → v ≤ 1000 → W (v * 1) = v := fun v h1 h2 => by rw [Int.mul_one]; exact w64 (by omega) (by omega)
    have er : timesL m 1 ((gcM z m 4 : Nat) : Int) = rdM m (gcM z m 4) := by
      rw [rdM, mat_rows, ← mat_eta (M := timesL m 1 ((gcM z m 4 : Nat) : Int)) (by rw [timesL_len]; omega) (fun r hr => by
        obtain ⟨c, hc, rfl⟩ := List.mem_map.1 hr
        rw [timesR, List.length_map]; exact h4 c hc)]
      refine mat_congr fun p q hp hq => ?_
      have hv := (g9 _ (getD_mem (d := []) (k := p) (by omega)))
      have bv := hv.2.1 _ (getD_mem (d := 0) (k := q) (by omega))
      rw [times_get (by omega) h4 _ _ hp hq, hw _ bv.1 (by omega), rdNum, show p / 2 * 2 + p % 2 = p by omega, show 2 * (q / 2) + q % 2 = q by omega]
    conv => whnf
    refine ACall.use (l2Times_spec 2 2 z m 1 ((gcM z m 4 : Nat) : Int) (by omega) (by omega) (fun r hr => by rw [h4 r hr]; omega)) ?_
    conv => whnf
    refine ⟨?_, ?_⟩
    · rw [hw z (by omega) (by omega)]; rfl
    · rw [er]
end Go.Proofs.Yteoccgiofepolaa
