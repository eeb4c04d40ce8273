/- Spreads: IsSpread and SpreadWorth, reference and program. -/
import Derived.Test.YtgobkndgaphacaaSpr4
namespace Go.Aw
def spwR (m rows places : List (List Int)) (x : Nat) (s : Int) : Nat → Int
  | 0 => s
  | y + 1 => W (spwR m rows places x s y + W ((m.getD x []).getD y 0 * dot (rows.getD x []) (places.getD y [])))
def spwM (m rows places : List (List Int)) : Nat → Int
  | 0 => 0
  | x + 1 => spwR m rows places x (spwM m rows places x) (m.getD x []).length
end Go.Aw
namespace Go.Proofs.Ytgobkndgaphacaa
open Go.Aw
set_option maxRecDepth 100000
set_option maxHeartbeats 4000000

def isSpr (m rows places : List (List Int)) : Bool := goodM m && decide (sprLen m rows places > 0)
theorem IsSpread_s (m : List (List Int)) (hm : OkM m) (_km : SzM m) (rows : List (List Int)) (_hr : OkM rows) (kr : SzM rows) (places : List (List Int)) (_hp : OkM places) (kp : SzM places) :
    FSpec Try.prog 9 [.t (.rows m), .t (.rows rows), .t (.rows places)] (ex (.tu [.c (.bool (isSpr m rows places)), .c (.bool (goodM m))]) []) := by
  refine fspec tyOk mx Try.func9 rfl (by kernel_rfl) rfl ?_
  conv => whnf
  refine ACall.use (l5Good_spec m hm.1 hm.len) ?_
  refine ⟨fun h => ?_, fun h => ?_⟩
  · have hg : goodM m = false := by simpa using h
    have e : isSpr m rows places = false := by rw [isSpr, hg]; rfl
    conv => whnf
    exact ⟨by rw [e, hg], rfl⟩
  · have hg : goodM m = true := by simpa using h
    conv => whnf
    refine ACall.use (l5Length_spec m rows places hg kr kp) ?_
    conv => whnf
    exact ⟨by rw [isSpr, hg]; rfl, rfl⟩
theorem IsSpread_i (m : List (List Int)) (hm : OkM m) (_km : SzM m) (rows : List (List Int)) (_hr : OkM rows) (kr : SzM rows) (places : List (List Int)) (_hp : OkM places) (kp : SzM places) :
    FSpec Try.prog 11 [.t (.rows m), .t (.rows rows), .t (.rows places)] (ex (.tu [.c (.bool (isSpr m rows places)), .c (.bool (goodM m))]) []) := by
  refine fspec tyOk mx Try.func11 rfl (by kernel_rfl) rfl ?_
  conv => whnf
  refine ACall.use (iIsSignGame_spec m hm.1 hm.len) ?_
  refine ⟨fun h => ?_, fun h => ?_⟩
  · have hg : goodM m = false := by simpa using h
    have e : isSpr m rows places = false := by rw [isSpr, hg]; rfl
    conv => whnf
    exact ⟨by rw [e, hg], rfl⟩
  · have hg : goodM m = true := by simpa using h
    conv => whnf
    refine ACall.use (length_spec m rows places hg kr kp) ?_
    conv => whnf
    exact ⟨by rw [isSpr, hg]; rfl, rfl⟩

def swOk (m rows places : List (List Int)) : Bool := goodM m && decide (sprLen m rows places ≠ 0)
def swSum (m rows places : List (List Int)) : Int := if swOk m rows places then spwM m rows places m.length else 0
def swLen (m rows places : List (List Int)) : Int := if swOk m rows places then sprLen m rows places else 0
theorem swOk_spec {m rows places : List (List Int)} (_hg : goodM m = true) (h : sprLen m rows places ≠ 0) : rows.length = m.length ∧ places.length = (m.getD 0 []).length ∧ ∀ r, r ∈ rows ++ places → r.length = (rows.getD 0 []).length := by
  have : sprOk m rows places = true := by
    rcases hb : sprOk m rows places with _ | _
    · rw [sprLen, hb] at h; exact absurd rfl h
    · rfl
  simp only [sprOk, sprRow, Bool.and_eq_true, decide_eq_true_eq, List.all_eq_true] at this
  obtain ⟨⟨⟨h1, h2⟩, _⟩, h4⟩ := this
  exact ⟨h1, h2, fun r hr => (h4 r hr).1.2⟩

theorem SpreadWorth_s (m : List (List Int)) (hm : OkM m) (_km : SzM m) (rows : List (List Int)) (_hr : OkM rows) (kr : SzM rows) (places : List (List Int)) (_hp : OkM places) (kp : SzM places) :
    FSpec Try.prog 13 [.t (.rows m), .t (.rows rows), .t (.rows places)] (ex (.tu [.c (.int .i64 (swSum m rows places)), .c (.int .i64 (swLen m rows places)), .c (.bool (swOk m rows places))]) []) := by
  obtain ⟨r1, r2, r3⟩ := kr.all
  refine fspec tyOk mx Try.func13 rfl (by kernel_rfl) rfl ?_
  conv => whnf
  refine ACall.use (l5Good_spec m hm.1 hm.len) ?_
  conv => whnf
  refine ⟨fun h => ?_, fun h => ?_⟩
  · have hg : goodM m = true := by simpa using h
    obtain ⟨g1, g2, g3, g4, g5⟩ := goodM_spec hg
    conv => whnf
    refine ACall.use (l5Length_spec m rows places hg kr kp) ?_
    conv => whnf
    refine ⟨fun h1 => ?_, fun h1 => ?_⟩
    · have h1 : sprLen m rows places = 0 := by simpa using h1
      have e : swOk m rows places = false := by rw [swOk, hg, h1]; rfl
      conv => whnf
      exact ⟨by rw [swSum, swLen, e]; rfl, rfl⟩
    · have h1 : sprLen m rows places ≠ 0 := by simpa using h1
      have e : swOk m rows places = true := by rw [swOk, hg, decide_eq_true h1]; rfl
      obtain ⟨k1, k2, k3⟩ := swOk_spec hg h1
      conv => whnf
      refine aloopI tyOk mx (fun x : Nat => (⟨61, [(0, .t (.rows m)), (1, .t (.rows rows)), (2, .t (.rows places)), (9, .c (.int .i64 (spwM m rows places x))), (10, .c (.int .i64 (x)))], [], 0⟩ : St)) (fun x => x ≤ m.length) (fun x => m.length - x) 0 (Nat.zero_le _) none (by refine ⟨rfl, rfl, ?_, ?_⟩ <;> ((repeat' (first | exact trivial | exact rfl | refine And.intro ?_ ?_)) <;> (try ((conv => whnf); first | refine vint ?_ | refine vboo ?_ | refine rint ?_ | refine rrow ?_ | skip)) <;> (try first | omega | (simp; done) | ((repeat rw [flts_closed _ (by assumption)]); exact vws_closed _ (by assumption))))) (fun x hx => ?_)
      refine ⟨fun h2 => ?_, fun h2 => ?_⟩
      · have h2 : x < m.length := by have := ltT h2; omega
        have hx5 := (g5 _ (getD_mem (d := []) h2)).1
        have hrx := k3 _ (List.mem_append.2 (.inl (getD_mem (d := []) (k := x) (show x < rows.length by omega))))
        have hrx2 := r2 _ (getD_mem (d := []) (k := x) (show x < rows.length by omega))
        conv => whnf
        refine aloopI tyOk mx (fun y : Nat => (⟨61, [(0, .t (.rows m)), (1, .t (.rows rows)), (2, .t (.rows places)), (9, .c (.int .i64 (spwR m rows places x (spwM m rows places x) y))), (10, .c (.int .i64 (x))), (11, .c (.int .i64 (y)))], [], 0⟩ : St)) (fun y => y ≤ (m.getD x []).length) (fun y => (m.getD x []).length - y) 0 (Nat.zero_le _) none (by refine ⟨rfl, rfl, ?_, ?_⟩ <;> ((repeat' (first | exact trivial | exact rfl | refine And.intro ?_ ?_)) <;> (try ((conv => whnf); first | refine vint ?_ | refine vboo ?_ | refine rint ?_ | refine rrow ?_ | skip)) <;> (try first | omega | (simp; done) | ((repeat rw [flts_closed _ (by assumption)]); exact vws_closed _ (by assumption))))) (fun y hy => ?_)
        refine ⟨x, rfl, h2, ?_⟩
        conv => whnf
        refine ⟨fun h3 => ?_, fun h3 => ?_⟩
        · have h3 : y < (m.getD x []).length := by have := ltT h3; omega
          have hpy := k3 _ (List.mem_append.2 (.inr (getD_mem (d := []) (k := y) (show y < places.length by omega))))
          conv => whnf
          refine ADraw.std tyOk mx ⟨by kernel_rfl, x, rfl, h2, y, rfl, h3, x, rfl, by omega, y, rfl, by omega, ?_⟩
          conv => whnf
          refine QCall.use (l5Dot_spec _ _ (by omega) (by omega)) ?_
          conv => whnf
          rw [nat_wrap (by omega)]
          exact ⟨y + 1, none, (by refine ⟨rfl, rfl, ?_, ?_⟩ <;> ((repeat' (first | exact trivial | exact rfl | refine And.intro ?_ ?_)) <;> (try ((conv => whnf); first | refine vint ?_ | refine vboo ?_ | refine rint ?_ | refine rrow ?_ | skip)) <;> (try first | omega | (simp; done) | ((repeat rw [flts_closed _ (by assumption)]); exact vws_closed _ (by assumption))))), by omega, by omega⟩
        · have h3 : ¬ y < (m.getD x []).length := by have := ltF h3; omega
          obtain rfl : y = (m.getD x []).length := by omega
          conv => whnf
          rw [nat_wrap (by omega)]
          exact ⟨x + 1, none, (by refine ⟨rfl, rfl, ?_, ?_⟩ <;> ((repeat' (first | exact trivial | exact rfl | refine And.intro ?_ ?_)) <;> (try ((conv => whnf); first | refine vint ?_ | refine vboo ?_ | refine rint ?_ | refine rrow ?_ | skip)) <;> (try first | omega | (simp; done) | ((repeat rw [flts_closed _ (by assumption)]); exact vws_closed _ (by assumption))))), by omega, by omega⟩
      · have h2 : ¬ x < m.length := by have := ltF h2; omega
        obtain rfl : x = m.length := by omega
        conv => whnf
        refine ACall.use (l5Length_spec m rows places hg kr kp) ?_
        conv => whnf
        exact ⟨by rw [swSum, swLen, e]; rfl, rfl⟩
  · have hg : goodM m = false := by simpa using h
    have e : swOk m rows places = false := by rw [swOk, hg]; rfl
    conv => whnf
    (repeat (conv => whnf); (first | refine ⟨fun h => absurd h (by decide), fun _ => ?_⟩ | refine ⟨fun _ => ?_, fun h => absurd h (by decide)⟩)); conv => whnf
    exact ⟨by rw [swSum, swLen, e]; rfl, rfl⟩
theorem SpreadWorth_i (m : List (List Int)) (hm : OkM m) (_km : SzM m) (rows : List (List Int)) (_hr : OkM rows) (kr : SzM rows) (places : List (List Int)) (_hp : OkM places) (kp : SzM places) :
    FSpec Try.prog 14 [.t (.rows m), .t (.rows rows), .t (.rows places)] (ex (.tu [.c (.int .i64 (swSum m rows places)), .c (.int .i64 (swLen m rows places)), .c (.bool (swOk m rows places))]) []) := by
  obtain ⟨r1, r2, r3⟩ := kr.all
  refine fspec tyOk mx Try.func14 rfl (by kernel_rfl) rfl ?_
  conv => whnf
  refine ACall.use (iIsSignGame_spec m hm.1 hm.len) ?_
  conv => whnf
  refine ⟨fun h => ?_, fun h => ?_⟩
  · have hg : goodM m = true := by simpa using h
    obtain ⟨g1, g2, g3, g4, g5⟩ := goodM_spec hg
    conv => whnf
    refine ACall.use (length_spec m rows places hg kr kp) ?_
    conv => whnf
    refine ⟨fun h1 => ?_, fun h1 => ?_⟩
    · have h1 : sprLen m rows places = 0 := by simpa using h1
      have e : swOk m rows places = false := by rw [swOk, hg, h1]; rfl
      conv => whnf
      exact ⟨by rw [swSum, swLen, e]; rfl, rfl⟩
    · have h1 : sprLen m rows places ≠ 0 := by simpa using h1
      have e : swOk m rows places = true := by rw [swOk, hg, decide_eq_true h1]; rfl
      obtain ⟨k1, k2, k3⟩ := swOk_spec hg h1
      conv => whnf
      refine aloopI tyOk mx (fun x : Nat => (⟨58, [(0, .t (.rows m)), (1, .t (.rows rows)), (2, .t (.rows places)), (9, .c (.int .i64 (spwM m rows places x))), (24, .t (.rows m)), (25, .c (.int .i64 (m.length))), (26, .c (.int .i64 (x)))], [], 0⟩ : St)) (fun x => x ≤ m.length) (fun x => m.length - x) 0 (Nat.zero_le _) none (by refine ⟨rfl, rfl, ?_, ?_⟩ <;> ((repeat' (first | exact trivial | exact rfl | refine And.intro ?_ ?_)) <;> (try ((conv => whnf); first | refine vint ?_ | refine vboo ?_ | refine rint ?_ | refine rrow ?_ | skip)) <;> (try first | omega | (simp; done) | ((repeat rw [flts_closed _ (by assumption)]); exact vws_closed _ (by assumption))))) (fun x hx => ?_)
      refine ⟨fun h2 => ?_, fun h2 => ?_⟩
      · have h2 : x < m.length := by have := ltT h2; omega
        have hx5 := (g5 _ (getD_mem (d := []) h2)).1
        have hrx := k3 _ (List.mem_append.2 (.inl (getD_mem (d := []) (k := x) (show x < rows.length by omega))))
        have hrx2 := r2 _ (getD_mem (d := []) (k := x) (show x < rows.length by omega))
        conv => whnf
        refine ⟨x, rfl, h2, ?_⟩
        conv => whnf
        refine aloopI tyOk mx (fun y : Nat => (⟨58, [(0, .t (.rows m)), (1, .t (.rows rows)), (2, .t (.rows places)), (9, .c (.int .i64 (spwR m rows places x (spwM m rows places x) y))), (10, .c (.int .i64 (x))), (24, .t (.rows m)), (25, .c (.int .i64 (m.length))), (26, .c (.int .i64 (x))), (31, .t (.ints .i64 (m.getD x []))), (32, .c (.int .i64 ((m.getD x []).length))), (33, .c (.int .i64 (y)))], [], 0⟩ : St)) (fun y => y ≤ (m.getD x []).length) (fun y => (m.getD x []).length - y) 0 (Nat.zero_le _) none (by refine ⟨rfl, rfl, ?_, ?_⟩ <;> ((repeat' (first | exact trivial | exact rfl | refine And.intro ?_ ?_)) <;> (try ((conv => whnf); first | refine vint ?_ | refine vboo ?_ | refine rint ?_ | refine rrow ?_ | skip)) <;> (try first | omega | (simp; done) | ((repeat rw [flts_closed _ (by assumption)]); exact vws_closed _ (by assumption))))) (fun y hy => ?_)
        refine ⟨fun h3 => ?_, fun h3 => ?_⟩
        · have h3 : y < (m.getD x []).length := by have := ltT h3; omega
          have hpy := k3 _ (List.mem_append.2 (.inr (getD_mem (d := []) (k := y) (show y < places.length by omega))))
          conv => whnf
          refine ⟨y, rfl, h3, ?_⟩
          conv => whnf
          refine ADraw.std tyOk mx ⟨by kernel_rfl, x, rfl, by omega, y, rfl, by omega, ?_⟩
          conv => whnf
          refine QCall.use (product_spec _ _ (by omega) (by omega)) ?_
          conv => whnf
          rw [nat_wrap (by omega)]
          exact ⟨y + 1, none, (by refine ⟨rfl, rfl, ?_, ?_⟩ <;> ((repeat' (first | exact trivial | exact rfl | refine And.intro ?_ ?_)) <;> (try ((conv => whnf); first | refine vint ?_ | refine vboo ?_ | refine rint ?_ | refine rrow ?_ | skip)) <;> (try first | omega | (simp; done) | ((repeat rw [flts_closed _ (by assumption)]); exact vws_closed _ (by assumption))))), by omega, by omega⟩
        · have h3 : ¬ y < (m.getD x []).length := by have := ltF h3; omega
          obtain rfl : y = (m.getD x []).length := by omega
          conv => whnf
          rw [nat_wrap (by omega)]
          exact ⟨x + 1, none, (by refine ⟨rfl, rfl, ?_, ?_⟩ <;> ((repeat' (first | exact trivial | exact rfl | refine And.intro ?_ ?_)) <;> (try ((conv => whnf); first | refine vint ?_ | refine vboo ?_ | refine rint ?_ | refine rrow ?_ | skip)) <;> (try first | omega | (simp; done) | ((repeat rw [flts_closed _ (by assumption)]); exact vws_closed _ (by assumption))))), by omega, by omega⟩
      · have h2 : ¬ x < m.length := by have := ltF h2; omega
        obtain rfl : x = m.length := by omega
        conv => whnf
        refine ACall.use (length_spec m rows places hg kr kp) ?_
        conv => whnf
        exact ⟨by rw [swSum, swLen, e]; rfl, rfl⟩
  · have hg : goodM m = false := by simpa using h
    have e : swOk m rows places = false := by rw [swOk, hg]; rfl
    conv => whnf
    (repeat (conv => whnf); (first | refine ⟨fun h => absurd h (by decide), fun _ => ?_⟩ | refine ⟨fun _ => ?_, fun h => absurd h (by decide)⟩)); conv => whnf
    exact ⟨by rw [swSum, swLen, e]; rfl, rfl⟩
end Go.Proofs.Ytgobkndgaphacaa
