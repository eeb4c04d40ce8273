/- Signs and sums. -/
import Derived.Test.YtpakfehinfcdoaaSign1
namespace Go.Proofs.Ytpakfehinfcdoaa
open Go.Aw

def sg (n code i : Nat) : Int := W (W (2 * bits .and .i64 (shr .i64 code ((n : Int) - 1 - i)) 1) - 1)
def sgRow (n code : Nat) : List Int := (List.range n).map (sg n code)
def signsL (n : Nat) : List (List Int) := (List.range (2 ^ n)).map (sgRow n)

theorem l5Signs_spec (n : Nat) (hn : n ≤ 12) : FSpec Try.prog 65 [.c (.int .i64 n)] (ex (.own 0) [(0, .rows 24 3 true (signsL n))]) := by
  have h2 := two_pow_le hn
  refine fspec tyOk mx Try.func65 rfl (by kernel_rfl) rfl ?_
  conv => whnf
  refine aloopI tyOk mx (fun c : Nat => (⟨37, [(0, .c (.int .i64 n)), (3, .own 0), (4, .c (.int .i64 (c)))], [(0, .rows 24 3 true ((List.range c).map (sgRow n)))], 1⟩ : St)) (fun c => c ≤ 2 ^ n) (fun c => 2 ^ n - c) 0 (Nat.zero_le _) none (by refine ⟨rfl, rfl, ?_, ?_⟩ <;> ((repeat' (first | exact trivial | exact rfl | refine And.intro ?_ ?_)) <;> (try ((conv => whnf); first | refine vint ?_ | refine vboo ?_ | refine rint ?_ | refine rrow ?_ | skip)) <;> (try first | omega | (simp; done) | ((repeat rw [flts_closed _ (by assumption)]); exact vws_closed _ (by assumption))))) (fun c hc => ?_)
  refine ⟨by omega, fun h => ?_, fun h => ?_⟩
  · rw [shl_one hn] at h
    have hc1 : c < 2 ^ n := Int.ofNat_lt.1 (of_decide_eq_true h)
    conv => whnf
    refine aloopI tyOk mx (fun i : Nat => (⟨37, [(0, .c (.int .i64 n)), (3, .own 0), (4, .c (.int .i64 (c))), (5, .own 1), (6, .c (.int .i64 (i)))], [(0, .rows 24 3 true ((List.range c).map (sgRow n))), (1, .ints 3 .i64 ((List.range i).map (sg n c)))], 2⟩ : St)) (fun i => i ≤ n) (fun i => n - i) 0 (by omega) none (by refine ⟨rfl, rfl, ?_, ?_⟩ <;> ((repeat' (first | exact trivial | exact rfl | refine And.intro ?_ ?_)) <;> (try ((conv => whnf); first | refine vint ?_ | refine vboo ?_ | refine rint ?_ | refine rrow ?_ | skip)) <;> (try first | omega | (simp; done) | ((repeat rw [flts_closed _ (by assumption)]); exact vws_closed _ (by assumption))))) (fun i hi => ?_)
    refine ⟨fun h => ?_, fun h => ?_⟩
    · have hi1 : i < n := by simpa using h
      have e1 : IntKind.i64.wrap (IntKind.i64.wrap ((n : Int) - 1) - i) = (n : Int) - 1 - i := by rw [w64 (n := (n : Int) - 1) (by omega) (by omega), w64 (by omega) (by omega)]
      conv => whnf
      rw [e1]
      refine ⟨by omega, ?_⟩
      conv => whnf
      refine ⟨by simp [room]; omega, ?_⟩
      conv => whnf
      rw [nat_wrap (by omega)]
      refine ⟨i + 1, none, ?_, hi1, by omega⟩
      (refine ⟨rfl, rfl, ?_, ?_⟩ <;> ((repeat' (first | exact trivial | exact rfl | refine And.intro ?_ ?_)) <;> (try ((conv => whnf); first | refine vint ?_ | refine vboo ?_ | refine rint ?_ | refine rrow ?_ | skip)) <;> (try first | omega | (simp; done) | ((repeat rw [flts_closed _ (by assumption)]); exact vws_closed _ (by assumption)))))
      rw [← map_range_succ]; rfl
    · have hi1 : n ≤ i := by simpa using h
      obtain rfl : i = n := by omega
      conv => whnf
      refine ⟨by simp [room]; omega, ?_⟩
      conv => whnf
      rw [nat_wrap (by omega)]
      refine ⟨c + 1, none, ?_, hc1, by omega⟩
      (refine ⟨rfl, rfl, ?_, ?_⟩ <;> ((repeat' (first | exact trivial | exact rfl | refine And.intro ?_ ?_)) <;> (try ((conv => whnf); first | refine vint ?_ | refine vboo ?_ | refine rint ?_ | refine rrow ?_ | skip)) <;> (try first | omega | (simp; done) | ((repeat rw [flts_closed _ (by assumption)]); exact vws_closed _ (by assumption)))))
      rw [← map_range_succ]; rfl
  · rw [shl_one hn] at h
    have hc1 : 2 ^ n ≤ c := Nat.not_lt.1 fun hh => of_decide_eq_false h (Int.ofNat_lt.2 hh)
    obtain rfl : c = 2 ^ n := by omega
    conv => whnf
    exact ⟨rfl, rfl⟩

theorem signsOf_spec (n : Nat) (hn : n ≤ 12) : FSpec Try.prog 62 [.c (.int .i64 n)] (ex (.own 0) [(0, .rows 24 3 true (signsL n))]) := by
  have h2 := two_pow_le hn
  refine fspec tyOk mx Try.func62 rfl (by kernel_rfl) rfl ?_
  conv => whnf
  refine ⟨by omega, ?_⟩
  rw [shl_one hn]
  conv => whnf
  refine aloopI tyOk mx (fun c : Nat => (⟨37, [(0, .c (.int .i64 n)), (3, .own 0), (9, .c (.int .i64 ((2 ^ n : Nat)))), (10, .c (.int .i64 (c)))], [(0, .rows 24 3 true ((List.range c).map (sgRow n)))], 1⟩ : St)) (fun c => c ≤ 2 ^ n) (fun c => 2 ^ n - c) 0 (Nat.zero_le _) none (by refine ⟨rfl, rfl, ?_, ?_⟩ <;> ((repeat' (first | exact trivial | exact rfl | refine And.intro ?_ ?_)) <;> (try ((conv => whnf); first | refine vint ?_ | refine vboo ?_ | refine rint ?_ | refine rrow ?_ | skip)) <;> (try first | omega | (simp; done) | ((repeat rw [flts_closed _ (by assumption)]); exact vws_closed _ (by assumption))))) (fun c hc => ?_)
  refine ⟨fun h => ?_, fun h => ?_⟩
  · have hc1 : c < 2 ^ n := Int.ofNat_lt.1 (of_decide_eq_true h)
    conv => whnf
    refine aloopI tyOk mx (fun i : Nat => (⟨37, [(0, .c (.int .i64 n)), (3, .own 0), (4, .c (.int .i64 (c))), (5, .own 1), (9, .c (.int .i64 ((2 ^ n : Nat)))), (10, .c (.int .i64 (c))), (14, .c (.int .i64 n)), (15, .c (.int .i64 (i)))], [(0, .rows 24 3 true ((List.range c).map (sgRow n))), (1, .ints 3 .i64 ((List.range i).map (sg n c)))], 2⟩ : St)) (fun i => i ≤ n) (fun i => n - i) 0 (by omega) none (by refine ⟨rfl, rfl, ?_, ?_⟩ <;> ((repeat' (first | exact trivial | exact rfl | refine And.intro ?_ ?_)) <;> (try ((conv => whnf); first | refine vint ?_ | refine vboo ?_ | refine rint ?_ | refine rrow ?_ | skip)) <;> (try first | omega | (simp; done) | ((repeat rw [flts_closed _ (by assumption)]); exact vws_closed _ (by assumption))))) (fun i hi => ?_)
    refine ⟨fun h => ?_, fun h => ?_⟩
    · have hi1 : i < n := by simpa using h
      have e1 : IntKind.i64.wrap (IntKind.i64.wrap ((n : Int) - 1) - i) = (n : Int) - 1 - i := by rw [w64 (n := (n : Int) - 1) (by omega) (by omega), w64 (by omega) (by omega)]
      conv => whnf
      rw [e1]
      refine ⟨by omega, ?_⟩
      conv => whnf
      refine ⟨by simp [room]; omega, ?_⟩
      conv => whnf
      rw [nat_wrap (by omega)]
      refine ⟨i + 1, none, ?_, hi1, by omega⟩
      (refine ⟨rfl, rfl, ?_, ?_⟩ <;> ((repeat' (first | exact trivial | exact rfl | refine And.intro ?_ ?_)) <;> (try ((conv => whnf); first | refine vint ?_ | refine vboo ?_ | refine rint ?_ | refine rrow ?_ | skip)) <;> (try first | omega | (simp; done) | ((repeat rw [flts_closed _ (by assumption)]); exact vws_closed _ (by assumption)))))
      rw [← map_range_succ]; rfl
    · have hi1 : n ≤ i := by simpa using h
      obtain rfl : i = n := by omega
      conv => whnf
      refine ⟨by simp [room]; omega, ?_⟩
      conv => whnf
      rw [nat_wrap (by omega)]
      refine ⟨c + 1, none, ?_, hc1, by omega⟩
      (refine ⟨rfl, rfl, ?_, ?_⟩ <;> ((repeat' (first | exact trivial | exact rfl | refine And.intro ?_ ?_)) <;> (try ((conv => whnf); first | refine vint ?_ | refine vboo ?_ | refine rint ?_ | refine rrow ?_ | skip)) <;> (try first | omega | (simp; done) | ((repeat rw [flts_closed _ (by assumption)]); exact vws_closed _ (by assumption)))))
      rw [← map_range_succ]; rfl
  · have hc1 : 2 ^ n ≤ c := Nat.not_lt.1 fun hh => of_decide_eq_false h (Int.ofNat_lt.2 hh)
    obtain rfl : c = 2 ^ n := by omega
    conv => whnf
    exact ⟨rfl, rfl⟩

def sumRow (r places : List Int) (c s : Int) (n : Nat) : Int := fo (fun s y => W (s + W (W (r.getD y 0 * c) * places.getD y 0))) s n
def sumTo (m : List (List Int)) (rows places : List Int) (n : Nat) : Int := fo (fun s x => sumRow (m.getD x []) places (rows.getD x 0) s (m.getD x []).length) 0 n
def sumW (m : List (List Int)) (rows places : List Int) : Int := sumTo m rows places m.length

theorem signed_spec (m : List (List Int)) (rows places : List Int) (h1 : m.length ≤ rows.length) (h2 : ∀ r, r ∈ m → r.length ≤ places.length) (h3 : rows.length ≤ 1000) (h4 : places.length ≤ 1000) :
    FSpec Try.prog 66 [.t (.rows m), .t (.ints .i64 rows), .t (.ints .i64 places)] (ex (.c (.int .i64 (sumW m rows places))) []) := by
  refine fspec tyOk mx Try.func66 rfl (by kernel_rfl) rfl ?_
  conv => whnf
  refine aloopI tyOk mx (fun x : Nat => (⟨42, [(1, .t (.ints .i64 rows)), (2, .t (.ints .i64 places)), (7, .c (.int .i64 (sumTo m rows places x))), (12, .t (.rows m)), (13, .c (.int .i64 m.length)), (14, .c (.int .i64 (x)))], [], 0⟩ : St)) (fun x => x ≤ m.length) (fun x => m.length - x) 0 (by omega) none (by refine ⟨rfl, rfl, ?_, ?_⟩ <;> ((repeat' (first | exact trivial | exact rfl | refine And.intro ?_ ?_)) <;> (try ((conv => whnf); first | refine vint ?_ | refine vboo ?_ | refine rint ?_ | refine rrow ?_ | skip)) <;> (try first | omega | (simp; done) | ((repeat rw [flts_closed _ (by assumption)]); exact vws_closed _ (by assumption))))) (fun x hx => ?_)
  refine ⟨fun h => ?_, fun h => ?_⟩
  · have hx1 : x < m.length := by simpa using h
    have h5 := h2 _ (getD_mem (d := []) hx1)
    conv => whnf
    refine ⟨x, rfl, hx1, ?_⟩
    conv => whnf
    refine aloopI tyOk mx (fun y : Nat => (⟨42, [(1, .t (.ints .i64 rows)), (2, .t (.ints .i64 places)), (7, .c (.int .i64 (sumRow (m.getD x []) places (rows.getD x 0) (sumTo m rows places x) y))), (8, .c (.int .i64 (x))), (12, .t (.rows m)), (13, .c (.int .i64 m.length)), (14, .c (.int .i64 (x))), (19, .t (.ints .i64 (m.getD x []))), (20, .c (.int .i64 ((m.getD x []).length))), (21, .c (.int .i64 (y)))], [], 0⟩ : St)) (fun y => y ≤ (m.getD x []).length) (fun y => (m.getD x []).length - y) 0 (by omega) none (by refine ⟨rfl, rfl, ?_, ?_⟩ <;> ((repeat' (first | exact trivial | exact rfl | refine And.intro ?_ ?_)) <;> (try ((conv => whnf); first | refine vint ?_ | refine vboo ?_ | refine rint ?_ | refine rrow ?_ | skip)) <;> (try first | omega | (simp; done) | ((repeat rw [flts_closed _ (by assumption)]); exact vws_closed _ (by assumption))))) (fun y hy => ?_)
    refine ⟨fun h => ?_, fun h => ?_⟩
    · have hy1 : y < (m.getD x []).length := of_decide_eq_true h |> Int.ofNat_lt.1
      conv => whnf
      refine ⟨y, rfl, hy1, ?_⟩
      conv => whnf
      refine ADraw.std tyOk mx ⟨by kernel_rfl, x, rfl, by omega, y, rfl, by omega, ?_⟩
      conv => whnf
      rw [nat_wrap (by omega)]
      exact ⟨y + 1, none, (by refine ⟨rfl, rfl, ?_, ?_⟩ <;> ((repeat' (first | exact trivial | exact rfl | refine And.intro ?_ ?_)) <;> (try ((conv => whnf); first | refine vint ?_ | refine vboo ?_ | refine rint ?_ | refine rrow ?_ | skip)) <;> (try first | omega | (simp; done) | ((repeat rw [flts_closed _ (by assumption)]); exact vws_closed _ (by assumption))))), hy1, by omega⟩
    · have hy1 : ¬ y < (m.getD x []).length := fun hh => of_decide_eq_false h (Int.ofNat_lt.2 hh)
      obtain rfl : y = (m.getD x []).length := by omega
      conv => whnf
      rw [nat_wrap (by omega)]
      exact ⟨x + 1, none, (by refine ⟨rfl, rfl, ?_, ?_⟩ <;> ((repeat' (first | exact trivial | exact rfl | refine And.intro ?_ ?_)) <;> (try ((conv => whnf); first | refine vint ?_ | refine vboo ?_ | refine rint ?_ | refine rrow ?_ | skip)) <;> (try first | omega | (simp; done) | ((repeat rw [flts_closed _ (by assumption)]); exact vws_closed _ (by assumption))))), hx1, by omega⟩
  · have hx1 : ¬ x < m.length := by simpa using h
    obtain rfl : x = m.length := by omega
    conv => whnf
    exact ⟨rfl, rfl⟩
theorem goodM_spec {m : List (List Int)} (h : goodM m = true) : 1 ≤ m.length ∧ m.length ≤ 3 ∧ 1 ≤ (m.getD 0 []).length ∧ (m.getD 0 []).length ≤ 3 ∧ (∀ r, r ∈ m → r.length = (m.getD 0 []).length ∧ ∀ x, x ∈ r → -9 ≤ x ∧ x ≤ 9) := by
  simp only [goodM, inR, rowIn, Bool.and_eq_true, decide_eq_true_eq, List.all_eq_true] at h
  obtain ⟨⟨h1, h2⟩, h3⟩ := h
  have h0 : m.getD 0 [] ∈ m := getD_mem (by omega)
  have := h3 _ h0
  exact ⟨by omega, by omega, by omega, by omega, fun r hr => ⟨(h3 r hr).1.2, (h3 r hr).2⟩⟩

end Go.Proofs.Ytpakfehinfcdoaa
