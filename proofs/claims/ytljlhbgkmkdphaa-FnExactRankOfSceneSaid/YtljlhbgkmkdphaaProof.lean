/- Parity proofs: reference and program. -/
import Derived.Test.YtljlhbgkmkdphaaScene1
import Derived.Laws.Bits64b
namespace Go.Aw
theorem bits_or_i64_nat (a b : Nat) (ha : a < 4611686018427387904) (hb : b < 4611686018427387904) : bits .or .i64 (a : Int) (b : Int) = ((a ||| b : Nat) : Int) := by
  have hx : a ||| b < 2 ^ 62 := Nat.or_lt_two_pow (by omega) (by omega)
  have h1 : (BitVec.ofInt 64 (a : Int)).toNat = a := by
    rw [BitVec.ofInt_natCast, BitVec.toNat_ofNat]; exact Nat.mod_eq_of_lt (by omega)
  have h2 : (BitVec.ofInt 64 (b : Int)).toNat = b := by
    rw [BitVec.ofInt_natCast, BitVec.toNat_ofNat]; exact Nat.mod_eq_of_lt (by omega)
  show IntKind.i64.wrap ((BitVec.ofInt 64 (a : Int) ||| BitVec.ofInt 64 (b : Int)).toNat : Int) = _
  rw [BitVec.toNat_or, h1, h2]
  exact w64 (by omega) (by omega)
theorem bits_xor_i64_nat (a b : Nat) (ha : a < 4611686018427387904) (hb : b < 4611686018427387904) : bits .xor .i64 (a : Int) (b : Int) = ((a ^^^ b : Nat) : Int) := by
  have hx : a ^^^ b < 2 ^ 62 := Nat.xor_lt_two_pow (by omega) (by omega)
  have h1 : (BitVec.ofInt 64 (a : Int)).toNat = a := by
    rw [BitVec.ofInt_natCast, BitVec.toNat_ofNat]; exact Nat.mod_eq_of_lt (by omega)
  have h2 : (BitVec.ofInt 64 (b : Int)).toNat = b := by
    rw [BitVec.ofInt_natCast, BitVec.toNat_ofNat]; exact Nat.mod_eq_of_lt (by omega)
  show IntKind.i64.wrap ((BitVec.ofInt 64 (a : Int) ^^^ BitVec.ofInt 64 (b : Int)).toNat : Int) = _
  rw [BitVec.toNat_xor, h1, h2]
  exact w64 (by omega) (by omega)
theorem shl_u64 {n : Nat} (h : n < 12) : shl .u64 1 (n : Int) = ((2 ^ n : Nat) : Int) := by
  have : n = 0 ∨ n = 1 ∨ n = 2 ∨ n = 3 ∨ n = 4 ∨ n = 5 ∨ n = 6 ∨ n = 7 ∨ n = 8 ∨ n = 9 ∨ n = 10 ∨ n = 11 := by omega
  rcases this with h | h | h | h | h | h | h | h | h | h | h | h <;> subst h <;> rfl
theorem pow_lt12 {n : Nat} (h : n < 12) : 2 ^ n < 4096 := by
  have := Nat.pow_lt_pow_right (a := 2) (by omega) h
  simpa using this
def maskTo (c : List Int) : Nat → Nat
  | 0 => 0
  | n + 1 => maskTo c n ||| 2 ^ (c.getD n 0).toNat
def maskOf (c : List Int) : Nat := maskTo c c.length
def masksL (m : List (List Int)) : List Int := m.map fun c => ((maskOf c : Nat) : Int)
theorem maskTo_lt {c : List Int} (h : ∀ v, v ∈ c → 0 ≤ v ∧ v ≤ 11) : ∀ n, n ≤ c.length → maskTo c n < 4096
  | 0, _ => by simp [maskTo]
  | n + 1, hn => by
    have h1 := maskTo_lt h n (by omega)
    have h2 := h (c.getD n 0) (by rw [List.getD_eq_getElem?_getD, List.getElem?_eq_getElem (by omega)]; exact List.getElem_mem _)
    have h3 := pow_lt12 (n := (c.getD n 0).toNat) (by omega)
    exact Nat.or_lt_two_pow (n := 12) h1 h3
def xorTo (m : List (List Int)) (l : List Int) : Nat → Nat
  | 0 => 0
  | n + 1 => xorTo m l n ^^^ maskOf (m.getD (l.getD n 0).toNat [])
theorem xorTo_lt {m : List (List Int)} {l : List Int} (h : ∀ c, c ∈ m → maskOf c < 4096) : ∀ n, xorTo m l n < 4096
  | 0 => by simp [xorTo]
  | n + 1 => by
    have h1 := xorTo_lt (l := l) h n
    have h2 : maskOf (m.getD (l.getD n 0).toNat []) < 4096 := by
      by_cases hi : (l.getD n 0).toNat < m.length
      · exact h _ (by rw [List.getD_eq_getElem?_getD, List.getElem?_eq_getElem hi]; exact List.getElem_mem _)
      · rw [List.getD_eq_getElem?_getD, List.getElem?_eq_none (by omega)]; simp [maskOf, maskTo]
    exact Nat.xor_lt_two_pow (n := 12) h1 h2
def sumAt (s l : List Int) (n : Nat) : Int := fo (fun a k => W (a + s.getD (l.getD k 0).toNat 0)) 0 n
def proofF (m : List (List Int)) (s l : List Int) : Bool := (((xorTo m l l.length : Nat) : Int) == 0) && (Int.tmod (sumAt s l l.length) 2 == 1)
end Go.Aw
namespace Go.Proofs.Ytljlhbgkmkdphaa
open Go.Aw
set_option maxRecDepth 100000
set_option maxHeartbeats 4000000

theorem rising_mem {l : List Int} {lo hi : Int} (h : rising l lo hi = true) : ∀ k, k < l.length → lo ≤ l.getD k 0 ∧ l.getD k 0 ≤ hi := fun k hk => by
  have h1 : ∀ x, x < l.length → risAt l lo hi x = true := by simpa [rising] using h
  have := h1 k hk
  simp only [risAt, Bool.and_eq_true, inR, decide_eq_true_eq] at this
  exact this.1
theorem goodS_spec {e : Int} {m : List (List Int)} {s : List Int} (h : goodS e m s = true) : 0 ≤ e ∧ e ≤ 12 ∧ m.length ≤ 10 ∧ s.length = m.length ∧ (∀ v, v ∈ s → 0 ≤ v ∧ v ≤ 1) ∧ (∀ c, c ∈ m → 0 < c.length ∧ ∀ v, v ∈ c → 0 ≤ v ∧ v ≤ 11) := by
  simp only [goodS, Bool.and_eq_true, decide_eq_true_eq, inR, rowIn, List.all_eq_true] at h
  obtain ⟨⟨⟨⟨h1, h2⟩, h3⟩, h4⟩, h5⟩ := h
  refine ⟨h1.1, h1.2, h2, h3, h4, fun c hc => ?_⟩
  have h6 := h5 c hc
  simp only [isCtx, Bool.and_eq_true, decide_eq_true_eq] at h6
  refine ⟨h6.1, fun v hv => ?_⟩
  obtain ⟨k, hk, rfl⟩ := List.mem_iff_getElem.1 hv
  have := rising_mem h6.2 k hk
  rw [show W (e - 1) = e - 1 from w64 (by omega) (by omega), getD_lt hk] at this
  omega

theorem masks_spec (e : Int) (m : List (List Int)) (s : List Int) (hm : m.length ≤ 1000) (hj : ∀ c, c ∈ m → c.length ≤ 1048576) (hc : ∀ c, c ∈ m → ∀ v, v ∈ c → 0 ≤ v ∧ v ≤ 11) :
    FSpec Try.prog 71 [.ag [.c (.int .i64 (e)), .t (.rows m), .t (.ints .i64 s)]] (ex (.own 0) [(0, .ints 83 .u64 (masksL m))]) := by
  refine fspec tyOk mx Try.func71 rfl (by kernel_rfl) rfl ?_
  conv => whnf
  refine aloopI tyOk mx (fun i : Nat => (⟨34, [(1, .ptr 0 0), (3, .own 1), (11, .t (.rows m)), (12, .c (.int .i64 (m.length))), (13, .c (.int .i64 (i)))], [(0, .cells 36 [.c (.int .i64 (e)), .t (.rows m), .t (.ints .i64 s)]), (1, .ints 83 .u64 ((m.take i).map fun c => ((maskOf c : Nat) : Int)))], 2⟩ : St)) (fun i => i ≤ m.length) (fun i => m.length - i) 0 (Nat.zero_le _) none (by refine ⟨rfl, rfl, ?_, ?_⟩ <;> ((repeat' (first | exact trivial | exact rfl | refine And.intro ?_ ?_)) <;> (try ((conv => whnf); first | refine vint ?_ | refine vboo ?_ | refine rint ?_ | refine rrow ?_ | skip)) <;> (try first | omega | (simp; done) | ((repeat rw [flts_closed _ (by assumption)]); exact vws_closed _ (by assumption))))) (fun i hi => ?_)
  refine ⟨fun h => ?_, fun h => ?_⟩
  · have h := ltT h
    have hjc := hj _ (getD_mem (d := []) h)
    have hcc := hc _ (getD_mem (d := []) h)
    conv => whnf
    refine ⟨i, rfl, h, ?_⟩
    conv => whnf
    refine aloopI tyOk mx (fun k : Nat => (⟨34, [(1, .ptr 0 0), (3, .own 1), (6, .c (.int .u64 ((maskTo (m.getD i []) k : Nat)))), (11, .t (.rows m)), (12, .c (.int .i64 (m.length))), (13, .c (.int .i64 (i))), (17, .t (.ints .i64 (m.getD i []))), (18, .c (.int .i64 ((m.getD i []).length))), (19, .c (.int .i64 (k)))], [(0, .cells 36 [.c (.int .i64 (e)), .t (.rows m), .t (.ints .i64 s)]), (1, .ints 83 .u64 ((m.take i).map fun c => ((maskOf c : Nat) : Int)))], 2⟩ : St)) (fun k => k ≤ (m.getD i []).length) (fun k => (m.getD i []).length - k) 0 (Nat.zero_le _) none (by refine ⟨rfl, rfl, ?_, ?_⟩ <;> ((repeat' (first | exact trivial | exact rfl | refine And.intro ?_ ?_)) <;> (try ((conv => whnf); first | refine vint ?_ | refine vboo ?_ | refine rint ?_ | refine rrow ?_ | skip)) <;> (try first | omega | (simp; done) | ((repeat rw [flts_closed _ (by assumption)]); exact vws_closed _ (by assumption))))) (fun k hk => ?_)
    have hlt := maskTo_lt hcc k hk
    refine ⟨fun h2 => ?_, fun h2 => ?_⟩
    · have h2 := ltT h2
      have hv := hcc _ (getD_mem (d := 0) h2)
      obtain ⟨n, hn, hn12⟩ : ∃ n : Nat, (m.getD i []).getD k 0 = (n : Int) ∧ n < 12 := ⟨((m.getD i []).getD k 0).toNat, by omega, by omega⟩
      have hp := pow_lt12 hn12
      conv => whnf
      refine ⟨k, rfl, h2, ?_⟩
      conv => whnf
      rw [hn]
      refine ⟨by omega, ?_⟩
      rw [shl_u64 hn12]
      conv => whnf
      rw [bits_or_u64_nat _ _ (by omega) (by omega), nat_wrap (by omega)]
      refine ⟨k + 1, none, ?_, by omega, by omega⟩
      (refine ⟨rfl, rfl, ?_, ?_⟩ <;> ((repeat' (first | exact trivial | exact rfl | refine And.intro ?_ ?_)) <;> (try ((conv => whnf); first | refine vint ?_ | refine vboo ?_ | refine rint ?_ | refine rrow ?_ | skip)) <;> (try first | omega | (simp; done) | ((repeat rw [flts_closed _ (by assumption)]); exact vws_closed _ (by assumption)))))
      show ((maskTo (m.getD i []) k ||| 2 ^ n : Nat) : Int) = ((maskTo (m.getD i []) k ||| 2 ^ ((m.getD i []).getD k 0).toNat : Nat) : Int)
      rw [hn]; rfl
    · have h2 := ltF h2
      obtain rfl : k = (m.getD i []).length := by omega
      conv => whnf
      refine ⟨by simp [room]; omega, ?_⟩
      conv => whnf
      rw [nat_wrap (by omega)]
      refine ⟨i + 1, none, ?_, by omega, by omega⟩
      (refine ⟨rfl, rfl, ?_, ?_⟩ <;> ((repeat' (first | exact trivial | exact rfl | refine And.intro ?_ ?_)) <;> (try ((conv => whnf); first | refine vint ?_ | refine vboo ?_ | refine rint ?_ | refine rrow ?_ | skip)) <;> (try first | omega | (simp; done) | ((repeat rw [flts_closed _ (by assumption)]); exact vws_closed _ (by assumption)))))
      rw [List.take_succ_eq_append_getElem h, List.map_append, getD_lt h]; rfl
  · have h := ltF h
    obtain rfl : i = m.length := by omega
    conv => whnf
    exact ⟨rfl, by rw [List.take_length]; rfl⟩

theorem l7Rows_spec (e : Int) (m : List (List Int)) (s : List Int) (hm : m.length ≤ 1000) (hj : ∀ c, c ∈ m → c.length ≤ 1048576) (hc : ∀ c, c ∈ m → ∀ v, v ∈ c → 0 ≤ v ∧ v ≤ 11) :
    FSpec Try.prog 70 [.ag [.c (.int .i64 (e)), .t (.rows m), .t (.ints .i64 s)]] (ex (.own 0) [(0, .ints 3 .i64 (masksL m))]) := by
  refine fspec tyOk mx Try.func70 rfl (by kernel_rfl) rfl ?_
  conv => whnf
  refine aloopI tyOk mx (fun i : Nat => (⟨41, [(1, .ptr 0 0), (3, .own 1), (4, .c (.int .i64 (i)))], [(0, .cells 36 [.c (.int .i64 (e)), .t (.rows m), .t (.ints .i64 s)]), (1, .ints 3 .i64 ((m.take i).map fun c => ((maskOf c : Nat) : Int)))], 2⟩ : St)) (fun i => i ≤ m.length) (fun i => m.length - i) 0 (Nat.zero_le _) none (by refine ⟨rfl, rfl, ?_, ?_⟩ <;> ((repeat' (first | exact trivial | exact rfl | refine And.intro ?_ ?_)) <;> (try ((conv => whnf); first | refine vint ?_ | refine vboo ?_ | refine rint ?_ | refine rrow ?_ | skip)) <;> (try first | omega | (simp; done) | ((repeat rw [flts_closed _ (by assumption)]); exact vws_closed _ (by assumption))))) (fun i hi => ?_)
  refine ⟨fun h => ?_, fun h => ?_⟩
  · have h := ltT h
    have hjc := hj _ (getD_mem (d := []) h)
    have hcc := hc _ (getD_mem (d := []) h)
    conv => whnf
    refine aloopI tyOk mx (fun k : Nat => (⟨41, [(1, .ptr 0 0), (3, .own 1), (4, .c (.int .i64 (i))), (5, .c (.int .i64 ((maskTo (m.getD i []) k : Nat)))), (6, .c (.int .i64 (k)))], [(0, .cells 36 [.c (.int .i64 (e)), .t (.rows m), .t (.ints .i64 s)]), (1, .ints 3 .i64 ((m.take i).map fun c => ((maskOf c : Nat) : Int)))], 2⟩ : St)) (fun k => k ≤ (m.getD i []).length) (fun k => (m.getD i []).length - k) 0 (Nat.zero_le _) none (by refine ⟨rfl, rfl, ?_, ?_⟩ <;> ((repeat' (first | exact trivial | exact rfl | refine And.intro ?_ ?_)) <;> (try ((conv => whnf); first | refine vint ?_ | refine vboo ?_ | refine rint ?_ | refine rrow ?_ | skip)) <;> (try first | omega | (simp; done) | ((repeat rw [flts_closed _ (by assumption)]); exact vws_closed _ (by assumption))))) (fun k hk => ?_)
    have hlt := maskTo_lt hcc k hk
    refine ⟨i, rfl, h, fun h2 => ?_, fun h2 => ?_⟩
    · have h2 := ltT h2
      have hv := hcc _ (getD_mem (d := 0) h2)
      obtain ⟨n, hn, hn12⟩ : ∃ n : Nat, (m.getD i []).getD k 0 = (n : Int) ∧ n < 12 := ⟨((m.getD i []).getD k 0).toNat, by omega, by omega⟩
      have hp := pow_lt12 hn12
      conv => whnf
      refine ⟨i, rfl, h, k, rfl, h2, ?_⟩
      conv => whnf
      rw [hn]
      refine ⟨by omega, ?_⟩
      rw [shl_one (by omega)]
      conv => whnf
      rw [bits_or_i64_nat _ _ (by omega) (by omega), nat_wrap (by omega)]
      refine ⟨k + 1, none, ?_, by omega, by omega⟩
      (refine ⟨rfl, rfl, ?_, ?_⟩ <;> ((repeat' (first | exact trivial | exact rfl | refine And.intro ?_ ?_)) <;> (try ((conv => whnf); first | refine vint ?_ | refine vboo ?_ | refine rint ?_ | refine rrow ?_ | skip)) <;> (try first | omega | (simp; done) | ((repeat rw [flts_closed _ (by assumption)]); exact vws_closed _ (by assumption)))))
      show ((maskTo (m.getD i []) k ||| 2 ^ n : Nat) : Int) = ((maskTo (m.getD i []) k ||| 2 ^ ((m.getD i []).getD k 0).toNat : Nat) : Int)
      rw [hn]; rfl
    · have h2 := ltF h2
      obtain rfl : k = (m.getD i []).length := by omega
      conv => whnf
      refine ⟨by simp [room]; omega, ?_⟩
      conv => whnf
      rw [nat_wrap (by omega)]
      refine ⟨i + 1, none, ?_, by omega, by omega⟩
      (refine ⟨rfl, rfl, ?_, ?_⟩ <;> ((repeat' (first | exact trivial | exact rfl | refine And.intro ?_ ?_)) <;> (try ((conv => whnf); first | refine vint ?_ | refine vboo ?_ | refine rint ?_ | refine rrow ?_ | skip)) <;> (try first | omega | (simp; done) | ((repeat rw [flts_closed _ (by assumption)]); exact vws_closed _ (by assumption)))))
      rw [List.take_succ_eq_append_getElem h, List.map_append, getD_lt h]; rfl
  · have h := ltF h
    obtain rfl : i = m.length := by omega
    conv => whnf
    exact ⟨rfl, by rw [List.take_length]; rfl⟩

theorem masksL_get {m : List (List Int)} {i : Nat} (h : i < m.length) : (masksL m).getD i 0 = ((maskOf (m.getD i []) : Nat) : Int) := map_getD (d := []) h

theorem isProof_spec (e : Int) (m : List (List Int)) (s l : List Int) (hm : m.length ≤ 1000) (hs : s.length = m.length) (hj : ∀ c, c ∈ m → c.length ≤ 1048576) (hc : ∀ c, c ∈ m → ∀ v, v ∈ c → 0 ≤ v ∧ v ≤ 11) (hll : l.length ≤ 1048576)
    (hl : ∀ k, k < l.length → ∃ i : Nat, l.getD k 0 = (i : Int) ∧ i < m.length) :
    FSpec Try.prog 69 [.ag [.c (.int .i64 (e)), .t (.rows m), .t (.ints .i64 s)], .t (.ints .i64 l)] (ex (.c (.bool (proofF m s l))) []) := by
  have hlm : (masksL m).length = m.length := by simp [masksL]
  have hmk : ∀ c, c ∈ m → maskOf c < 4096 := fun c hcm => maskTo_lt (hc c hcm) _ (Nat.le_refl _)
  refine fspec tyOk mx Try.func69 rfl (by kernel_rfl) rfl ?_
  conv => whnf
  refine ACall.use (masks_spec e m s hm hj hc) ?_
  conv => whnf
  refine aloopI tyOk mx (fun k : Nat => (⟨39, [(2, .ptr 0 0), (5, .c (.int .u64 ((xorTo m l k : Nat)))), (6, .c (.int .i64 (sumAt s l k))), (7, .own 1), (12, .t (.ints .i64 l)), (13, .c (.int .i64 (l.length))), (14, .c (.int .i64 (k)))], [(0, .cells 36 [.c (.int .i64 (e)), .t (.rows m), .t (.ints .i64 s)]), (1, .ints 83 .u64 (masksL m))], 2⟩ : St)) (fun k => k ≤ l.length) (fun k => l.length - k) 0 (Nat.zero_le _) none (by refine ⟨rfl, rfl, ?_, ?_⟩ <;> ((repeat' (first | exact trivial | exact rfl | refine And.intro ?_ ?_)) <;> (try ((conv => whnf); first | refine vint ?_ | refine vboo ?_ | refine rint ?_ | refine rrow ?_ | skip)) <;> (try first | omega | (simp; done) | ((repeat rw [flts_closed _ (by assumption)]); exact vws_closed _ (by assumption))))) (fun k hk => ?_)
  have hx := xorTo_lt (l := l) hmk k
  refine ⟨fun h => ?_, fun h => ?_⟩
  · have h := ltT h
    obtain ⟨i, hi, him⟩ := hl k h
    have hmi := hmk _ (getD_mem (d := []) him)
    conv => whnf
    refine ⟨k, rfl, h, ?_⟩
    conv => whnf
    rw [hi]
    refine ⟨i, rfl, by omega, ?_⟩
    conv => whnf
    rw [masksL_get him]
    conv => whnf
    rw [bits_xor_u64_nat _ _ (by omega) (by omega)]
    refine ⟨i, rfl, by omega, ?_⟩
    conv => whnf
    rw [nat_wrap (by omega)]
    refine ⟨k + 1, none, ?_, by omega, by omega⟩
    (refine ⟨rfl, rfl, ?_, ?_⟩ <;> ((repeat' (first | exact trivial | exact rfl | refine And.intro ?_ ?_)) <;> (try ((conv => whnf); first | refine vint ?_ | refine vboo ?_ | refine rint ?_ | refine rrow ?_ | skip)) <;> (try first | omega | (simp; done) | ((repeat rw [flts_closed _ (by assumption)]); exact vws_closed _ (by assumption)))))
    · show ((xorTo m l k ^^^ maskOf (m.getD i []) : Nat) : Int) = ((xorTo m l k ^^^ maskOf (m.getD (l.getD k 0).toNat []) : Nat) : Int)
      rw [hi]; rfl
    · show W (sumAt s l k + s.getD i 0) = W (sumAt s l k + s.getD (l.getD k 0).toNat 0)
      rw [hi]; rfl
  · have h := ltF h
    obtain rfl : k = l.length := by omega
    conv => whnf
    refine ⟨fun h2 => ?_, fun h2 => ?_⟩
    · conv => whnf
      refine ⟨by decide, ?_⟩
      conv => whnf
      exact ⟨by rw [proofF, h2, Bool.true_and], rfl⟩
    · conv => whnf
      exact ⟨by rw [proofF, h2, Bool.false_and], rfl⟩

theorem l7Proof_spec (e : Int) (m : List (List Int)) (s l : List Int) (hm : m.length ≤ 1000) (hs : s.length = m.length) (hj : ∀ c, c ∈ m → c.length ≤ 1048576) (hc : ∀ c, c ∈ m → ∀ v, v ∈ c → 0 ≤ v ∧ v ≤ 11) (hll : l.length ≤ 1048576)
    (hl : ∀ k, k < l.length → ∃ i : Nat, l.getD k 0 = (i : Int) ∧ i < m.length) :
    FSpec Try.prog 66 [.ag [.c (.int .i64 (e)), .t (.rows m), .t (.ints .i64 s)], .t (.ints .i64 l)] (ex (.c (.bool (proofF m s l))) []) := by
  have hlm : (masksL m).length = m.length := by simp [masksL]
  have hmk : ∀ c, c ∈ m → maskOf c < 4096 := fun c hcm => maskTo_lt (hc c hcm) _ (Nat.le_refl _)
  refine fspec tyOk mx Try.func66 rfl (by kernel_rfl) rfl ?_
  conv => whnf
  refine ACall.use (l7Rows_spec e m s hm hj hc) ?_
  conv => whnf
  refine aloopI tyOk mx (fun k : Nat => (⟨43, [(1, .t (.ints .i64 l)), (2, .ptr 0 0), (5, .own 1), (6, .c (.int .i64 ((xorTo m l k : Nat)))), (7, .c (.int .i64 (sumAt s l k))), (8, .c (.int .i64 (k)))], [(0, .cells 36 [.c (.int .i64 (e)), .t (.rows m), .t (.ints .i64 s)]), (1, .ints 3 .i64 (masksL m))], 2⟩ : St)) (fun k => k ≤ l.length) (fun k => l.length - k) 0 (Nat.zero_le _) none (by refine ⟨rfl, rfl, ?_, ?_⟩ <;> ((repeat' (first | exact trivial | exact rfl | refine And.intro ?_ ?_)) <;> (try ((conv => whnf); first | refine vint ?_ | refine vboo ?_ | refine rint ?_ | refine rrow ?_ | skip)) <;> (try first | omega | (simp; done) | ((repeat rw [flts_closed _ (by assumption)]); exact vws_closed _ (by assumption))))) (fun k hk => ?_)
  have hx := xorTo_lt (l := l) hmk k
  refine ⟨fun h => ?_, fun h => ?_⟩
  · have h := ltT h
    obtain ⟨i, hi, him⟩ := hl k h
    have hmi := hmk _ (getD_mem (d := []) him)
    conv => whnf
    refine ⟨k, rfl, h, ?_⟩
    conv => whnf
    rw [hi]
    refine ⟨i, rfl, by omega, ?_⟩
    conv => whnf
    rw [masksL_get him]
    conv => whnf
    rw [bits_xor_i64_nat _ _ (by omega) (by omega)]
    refine ADraw.std tyOk mx ⟨by kernel_rfl, k, rfl, h, ?_⟩
    conv => whnf
    rw [hi]
    refine ⟨i, rfl, by omega, ?_⟩
    conv => whnf
    rw [nat_wrap (by omega)]
    refine ⟨k + 1, none, ?_, by omega, by omega⟩
    (refine ⟨rfl, rfl, ?_, ?_⟩ <;> ((repeat' (first | exact trivial | exact rfl | refine And.intro ?_ ?_)) <;> (try ((conv => whnf); first | refine vint ?_ | refine vboo ?_ | refine rint ?_ | refine rrow ?_ | skip)) <;> (try first | omega | (simp; done) | ((repeat rw [flts_closed _ (by assumption)]); exact vws_closed _ (by assumption)))))
    · show ((xorTo m l k ^^^ maskOf (m.getD i []) : Nat) : Int) = ((xorTo m l k ^^^ maskOf (m.getD (l.getD k 0).toNat []) : Nat) : Int)
      rw [hi]; rfl
    · show W (sumAt s l k + s.getD i 0) = W (sumAt s l k + s.getD (l.getD k 0).toNat 0)
      rw [hi]; rfl
  · have h := ltF h
    obtain rfl : k = l.length := by omega
    conv => whnf
    refine ⟨fun h2 => ?_, fun h2 => ?_⟩
    · conv => whnf
      refine ⟨by decide, ?_⟩
      conv => whnf
      exact ⟨by rw [proofF, h2, Bool.true_and], rfl⟩
    · conv => whnf
      exact ⟨by rw [proofF, h2, Bool.false_and], rfl⟩

def ppV (e : Int) (m : List (List Int)) (s l : List Int) : Bool := goodS e m s && (rising l 0 (W ((m.length : Int) - 1)) && proofF m s l)
theorem places_of {m : List (List Int)} {l : List Int} (hm : m.length ≤ 1000) (h : rising l 0 (W ((m.length : Int) - 1)) = true) : ∀ k, k < l.length → ∃ i : Nat, l.getD k 0 = (i : Int) ∧ i < m.length := fun k hk => by
  have := rising_mem h k hk
  rw [show W ((m.length : Int) - 1) = (m.length : Int) - 1 from w64 (by omega) (by omega)] at this
  exact ⟨(l.getD k 0).toNat, by omega, by omega⟩

theorem IsParityProof_s (e : Int) (m : List (List Int)) (s : List Int) (_he : InR e) (_hm : OkM m) (_hs : OkI s) (km : SzM m) (ks : SzI s) (l : List Int) (_hl : OkI l) (kl : SzI l) :
    FSpec Try.prog 21 [.ag [.c (.int .i64 (e)), .t (.rows m), .t (.ints .i64 s)], .t (.ints .i64 l)] (ex (.tu [.c (.bool (ppV e m s l)), .c (.bool (goodS e m s))]) []) := by
  have kl' : l.length ≤ 1048576 := kl
  obtain ⟨i, j, z⟩ := km.all
  refine fspec tyOk mx Try.func21 rfl (by kernel_rfl) rfl ?_
  conv => whnf
  refine ACall.use (l7Good_spec e m s km ks) ?_
  conv => whnf
  refine ⟨fun h => ?_, fun h => ?_⟩
  · have h : goodS e m s = false := by simpa using h
    conv => whnf
    exact ⟨by rw [ppV, h]; rfl, rfl⟩
  · have h : goodS e m s = true := by simpa using h
    obtain ⟨g1, g2, g3, g4, g5, g6⟩ := goodS_spec h
    conv => whnf
    refine ACall.use (l1Rising_spec l _ _ (by omega)) ?_
    conv => whnf
    refine ⟨fun h2 => ?_, fun h2 => ?_⟩
    · conv => whnf
      refine ACall.use (l7Proof_spec e m s l (by omega) g4 j (fun c hc => (g6 c hc).2) kl' (places_of (by omega) h2)) ?_
      conv => whnf
      refine ⟨?_, rfl⟩
      rw [ppV, h, Bool.true_and, show rising l 0 (W ((m.length : Int) - 1)) = true from h2, Bool.true_and]
    · conv => whnf
      refine ⟨?_, rfl⟩
      rw [ppV, h, Bool.true_and, show rising l 0 (W ((m.length : Int) - 1)) = false from h2, Bool.false_and]
theorem IsParityProof_i (e : Int) (m : List (List Int)) (s : List Int) (_he : InR e) (_hm : OkM m) (_hs : OkI s) (km : SzM m) (ks : SzI s) (l : List Int) (_hl : OkI l) (kl : SzI l) :
    FSpec Try.prog 24 [.ag [.c (.int .i64 (e)), .t (.rows m), .t (.ints .i64 s)], .t (.ints .i64 l)] (ex (.tu [.c (.bool (ppV e m s l)), .c (.bool (goodS e m s))]) []) := by
  have kl' : l.length ≤ 1048576 := kl
  obtain ⟨i, j, z⟩ := km.all
  refine fspec tyOk mx Try.func24 rfl (by kernel_rfl) rfl ?_
  conv => whnf
  refine ACall.use (iIsScene_spec e m s km ks) ?_
  conv => whnf
  refine ⟨fun h => ?_, fun h => ?_⟩
  · have h : goodS e m s = false := by simpa using h
    conv => whnf
    exact ⟨by rw [ppV, h]; rfl, rfl⟩
  · have h : goodS e m s = true := by simpa using h
    obtain ⟨g1, g2, g3, g4, g5, g6⟩ := goodS_spec h
    conv => whnf
    refine ACall.use (isSet_spec l _ (by omega)) ?_
    conv => whnf
    refine ⟨fun h2 => ?_, fun h2 => ?_⟩
    · conv => whnf
      refine ACall.use (isProof_spec e m s l (by omega) g4 j (fun c hc => (g6 c hc).2) kl' (places_of (by omega) h2)) ?_
      conv => whnf
      refine ⟨?_, rfl⟩
      rw [ppV, h, Bool.true_and, show rising l 0 (W ((m.length : Int) - 1)) = true from h2, Bool.true_and]
    · conv => whnf
      refine ⟨?_, rfl⟩
      rw [ppV, h, Bool.true_and, show rising l 0 (W ((m.length : Int) - 1)) = false from h2, Bool.false_and]
end Go.Proofs.Ytljlhbgkmkdphaa
