/- Ranks of scenes, walked: program and reference. -/
import Derived.Test.YtljlhbgkmkdphaaProof
import Derived.Test.YtljlhbgkmkdphaaRank1
namespace Go.Aw
def up (L : List Nat) : List Int := L.map fun v => ((v : Nat) : Int)
theorem up_len (L : List Nat) : (up L).length = L.length := by simp [up]
theorem up_get (L : List Nat) (i : Nat) : (up L).getD i 0 = ((L.getD i 0 : Nat) : Int) := by
  by_cases h : i < L.length
  · simp [up, List.getD, h]
  · simp [up, List.getD, h]
theorem up_set (L : List Nat) (i v : Nat) : (up L).set i ((v : Nat) : Int) = up (L.set i v) := by simp [up, List.map_set]
theorem up_push (L : List Nat) (v : Nat) : up L ++ [((v : Nat) : Int)] = up (L ++ [v]) := by simp [up]
theorem bits_and1 (a : Nat) (ha : a < 4611686018427387904) : bits .and .i64 (a : Int) 1 = ((a % 2 : Nat) : Int) := by
  have h1 : (BitVec.ofInt 64 (a : Int)).toNat = a := by
    rw [BitVec.ofInt_natCast, BitVec.toNat_ofNat]; exact Nat.mod_eq_of_lt (by omega)
  show IntKind.i64.wrap ((BitVec.ofInt 64 (a : Int) &&& BitVec.ofInt 64 (1 : Int)).toNat : Int) = _
  rw [BitVec.toNat_and, h1, show (BitVec.ofInt 64 (1 : Int)).toNat = 1 from rfl, Nat.and_one_is_mod]
  exact w64 (by omega) (by omega)
theorem shr_nat (v b : Nat) (hb : b ≤ 64) : shr .i64 (v : Int) (b : Int) = ((v / 2 ^ b : Nat) : Int) := by
  show Int.fdiv (v : Int) (2 ^ (min (b : Int).toNat 64)) = _
  rw [Int.toNat_natCast, Nat.min_eq_left hb, Int.ofNat_fdiv, Int.natCast_pow]; rfl
theorem bit_eq {v b : Nat} (hv : v < 4096) (hb : b ≤ 64) : bits .and .i64 (shr .i64 (v : Int) (b : Int)) 1 = if v.testBit b then 1 else 0 := by
  have := Nat.div_le_self v (2 ^ b)
  rw [shr_nat v b hb, bits_and1 _ (by omega), Nat.testBit_eq_decide_div_mod_eq]
  rcases Nat.mod_two_eq_zero_or_one (v / 2 ^ b) with h | h <;> rw [h] <;> rfl
theorem maskTo_bit {c : List Int} {b : Nat} : ∀ n, (∀ k, k < n → (c.getD k 0).toNat ≠ b) → (maskTo c n).testBit b = false
  | 0, _ => Nat.zero_testBit b
  | n + 1, h => by
    rw [maskTo, Nat.testBit_or, maskTo_bit n (fun k hk => h k (by omega)), Nat.testBit_two_pow, decide_eq_false (h n (by omega))]; rfl
def natM (m : List (List Int)) : List Nat := m.map maskOf
theorem natM_up (m : List (List Int)) : masksL m = up (natM m) := by simp [masksL, up, natM]
def rkF (m : List (List Int)) : Nat := (basF (natM m) m.length).length
theorem natM_lt {m : List (List Int)} (hc : ∀ c, c ∈ m → ∀ v, v ∈ c → 0 ≤ v ∧ v ≤ 11) : ∀ v, v ∈ natM m → v < 4096 := fun v hv => by
  obtain ⟨c, h, rfl⟩ := List.mem_map.1 hv
  exact maskTo_lt (hc c h) _ (Nat.le_refl _)
theorem ne_of_bneN {x y : Int} (h : (x != y) = true) : x ≠ y := by simpa using h
theorem eq_of_bneN {x y : Int} (h : (x != y) = false) : x = y := by simpa using h
theorem mnx_int (x r : Nat) : (if ((x ^^^ r : Nat) : Int) < (x : Int) then ((x ^^^ r : Nat) : Int) else (x : Int)) = ((mnx x r : Nat) : Int) := by
  unfold mnx
  by_cases h : x ^^^ r < x
  · rw [if_pos (by omega), if_pos h]
  · rw [if_neg (by omega), if_neg h]
end Go.Aw
namespace Go.Proofs.Ytljlhbgkmkdphaa
open Go.Aw
set_option maxRecDepth 100000
set_option maxHeartbeats 4000000

def rkV (e : Int) (m : List (List Int)) (s : List Int) : Int := if goodS e m s then (rkF m : Int) else 0
theorem natM_bit {e : Nat} {m : List (List Int)} {s : List Int} (h : goodS e m s = true) : ∀ v, v ∈ natM m → ∀ b, e ≤ b → v.testBit b = false := fun v hv b hb => by
  obtain ⟨c, hcm, rfl⟩ := List.mem_map.1 hv
  obtain ⟨h1, h2, _⟩ := goodS_spec h
  simp only [goodS, Bool.and_eq_true, List.all_eq_true] at h
  have hx := h.2 c hcm
  simp only [isCtx, Bool.and_eq_true] at hx
  have hr := rising_mem hx.2
  have hw : W ((e : Int) - 1) = (e : Int) - 1 := w64 (by omega) (by omega)
  refine maskTo_bit _ fun k hk e2 => ?_
  have := hr k hk
  rw [hw] at this
  omega

theorem RankOfScene_i (e : Int) (m : List (List Int)) (s : List Int) (_he : InR e) (_hm : OkM m) (_hs : OkI s) (km : SzM m) (ks : SzI s) :
    FSpec Try.prog 28 [.ag [.c (.int .i64 (e)), .t (.rows m), .t (.ints .i64 s)]] (ex (.tu [.c (.int .i64 (rkV e m s)), .c (.bool (goodS e m s))]) []) := by
  refine fspec tyOk mx Try.func28 rfl (by kernel_rfl) rfl ?_
  conv => whnf
  refine ACall.use (iIsScene_spec e m s km ks) ?_
  conv => whnf
  refine ⟨fun h => ?_, fun h => ?_⟩
  · have h : goodS e m s = false := by simpa using h
    conv => whnf
    exact ⟨by rw [rkV, h]; rfl, rfl⟩
  · have h : goodS e m s = true := by simpa using h
    obtain ⟨h1, h2, h3, h4, h5, h6⟩ := goodS_spec h
    have hc : ∀ c, c ∈ m → ∀ v, v ∈ c → 0 ≤ v ∧ v ≤ 11 := fun c hcm => (h6 c hcm).2
    have hlt := natM_lt hc
    have hnl : (natM m).length = m.length := by simp [natM]
    conv => whnf
    refine ACall.use (masks_spec e m s (by omega) (fun c hcm => by have := km.all; exact (this.2.1 c hcm)) hc) ?_
    rw [natM_up]
    conv => whnf
    refine aloopI tyOk mx (fun i : Nat => (⟨41, [(1, .ptr 0 0), (4, .own 1), (14, .own 2), (15, .c (.int .i64 ((up (natM m)).length))), (16, .c (.int .i64 (i)))], [(0, .cells 36 [.c (.int .i64 (e)), .t (.rows m), .t (.ints .i64 s)]), (1, .ints 83 .u64 (up (basF (natM m) i))), (2, .ints 83 .u64 (up (natM m)))], 3⟩ : St)) (fun i => i ≤ m.length) (fun i => m.length - i) 0 (Nat.zero_le _) none (by refine ⟨rfl, rfl, ?_, ?_⟩ <;> ((repeat' (first | exact trivial | exact rfl | refine And.intro ?_ ?_)) <;> (try ((conv => whnf); first | refine vint ?_ | refine vboo ?_ | refine rint ?_ | refine rrow ?_ | skip)) <;> (try first | omega | (simp; done) | ((repeat rw [flts_closed _ (by assumption)]); exact vws_closed _ (by assumption))))) (fun i hi => ?_)
    have hul := up_len (natM m)
    have inv := bas_inv hlt i (by omega)
    have hll := inv.len
    refine ⟨fun h7 => ?_, fun h7 => ?_⟩
    · have h7 : i < m.length := by have := ltT h7; omega
      have hx := hlt _ (gmem (L := natM m) (j := i) (by omega))
      conv => whnf
      refine ⟨i, rfl, by omega, ?_⟩
      conv => whnf
      rw [up_get]
      conv => whnf
      refine aloopI tyOk mx (fun n : Nat => (⟨41, [(1, .ptr 0 0), (4, .own 1), (6, .c (.int .u64 ((redF (basF (natM m) i) ((natM m).getD i 0) n : Nat)))), (14, .own 2), (15, .c (.int .i64 ((up (natM m)).length))), (16, .c (.int .i64 (i))), (20, .own 1), (21, .c (.int .i64 ((up (basF (natM m) i)).length))), (22, .c (.int .i64 (n)))], [(0, .cells 36 [.c (.int .i64 (e)), .t (.rows m), .t (.ints .i64 s)]), (1, .ints 83 .u64 (up (basF (natM m) i))), (2, .ints 83 .u64 (up (natM m)))], 3⟩ : St)) (fun n => n ≤ (basF (natM m) i).length) (fun n => (basF (natM m) i).length - n) 0 (Nat.zero_le _) none (by refine ⟨rfl, rfl, ?_, ?_⟩ <;> ((repeat' (first | exact trivial | exact rfl | refine And.intro ?_ ?_)) <;> (try ((conv => whnf); first | refine vint ?_ | refine vboo ?_ | refine rint ?_ | refine rrow ?_ | skip)) <;> (try first | omega | (simp; done) | ((repeat rw [flts_closed _ (by assumption)]); exact vws_closed _ (by assumption))))) (fun n hn => ?_)
      have hbl := up_len (basF (natM m) i)
      obtain ⟨r1, r2, r3⟩ := red_inv inv.tri inv.lt hx n hn
      refine ⟨fun h8 => ?_, fun h8 => ?_⟩
      · have h8 : n < (basF (natM m) i).length := by have := ltT h8; omega
        have hy := inv.lt _ (gmem h8)
        conv => whnf
        refine ⟨n, rfl, by omega, ?_⟩
        conv => whnf
        rw [up_get]
        conv => whnf
        rw [bits_xor_u64_nat _ _ (by omega) (by omega)]
        rw [nat_wrap (by omega)]
        refine ⟨n + 1, none, ?_, by omega, by omega⟩
        (refine ⟨rfl, rfl, ?_, ?_⟩ <;> ((repeat' (first | exact trivial | exact rfl | refine And.intro ?_ ?_)) <;> (try ((conv => whnf); first | refine vint ?_ | refine vboo ?_ | refine rint ?_ | refine rrow ?_ | skip)) <;> (try first | omega | (simp; done) | ((repeat rw [flts_closed _ (by assumption)]); exact vws_closed _ (by assumption)))))
        exact mnx_int _ _
      · have h8 : ¬ n < (basF (natM m) i).length := by have := ltF h8; omega
        obtain rfl : n = (basF (natM m) i).length := by omega
        conv => whnf
        refine ⟨fun h9 => ?_, fun h9 => ?_⟩
        · have h9 : redF (basF (natM m) i) ((natM m).getD i 0) (basF (natM m) i).length ≠ 0 := by have := ne_of_bneN h9; omega
          conv => whnf
          refine ⟨by rw [hbl]; simp [room]; omega, ?_⟩
          conv => whnf
          rw [nat_wrap (by omega)]
          refine ⟨i + 1, none, ?_, by omega, by omega⟩
          dsimp only
          rw [show basF (natM m) (i + 1) = stpF (basF (natM m) i) ((natM m).getD i 0) from rfl, stpF, if_neg h9]
          (refine ⟨rfl, rfl, ?_, ?_⟩ <;> ((repeat' (first | exact trivial | exact rfl | refine And.intro ?_ ?_)) <;> (try ((conv => whnf); first | refine vint ?_ | refine vboo ?_ | refine rint ?_ | refine rrow ?_ | skip)) <;> (try first | omega | (simp; done) | ((repeat rw [flts_closed _ (by assumption)]); exact vws_closed _ (by assumption)))))
          exact up_push _ _
        · have h9 : redF (basF (natM m) i) ((natM m).getD i 0) (basF (natM m) i).length = 0 := by have := eq_of_bneN h9; omega
          conv => whnf
          rw [nat_wrap (by omega)]
          refine ⟨i + 1, none, ?_, by omega, by omega⟩
          dsimp only
          rw [show basF (natM m) (i + 1) = stpF (basF (natM m) i) ((natM m).getD i 0) from rfl, stpF, if_pos h9]
          (refine ⟨rfl, rfl, ?_, ?_⟩ <;> ((repeat' (first | exact trivial | exact rfl | refine And.intro ?_ ?_)) <;> (try ((conv => whnf); first | refine vint ?_ | refine vboo ?_ | refine rint ?_ | refine rrow ?_ | skip)) <;> (try first | omega | (simp; done) | ((repeat rw [flts_closed _ (by assumption)]); exact vws_closed _ (by assumption)))))
    · have h7 : ¬ i < m.length := by have := ltF h7; omega
      obtain rfl : i = m.length := by omega
      conv => whnf
      refine ⟨?_, rfl⟩
      rw [rkV, h, if_pos rfl, up_len]; rfl
end Go.Proofs.Ytljlhbgkmkdphaa
