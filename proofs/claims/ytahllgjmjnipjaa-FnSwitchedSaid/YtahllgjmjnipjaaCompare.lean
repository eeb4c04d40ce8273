/- The comparison of lists, and of lists of lists. -/
import Derived.Test.YtahllgjmjnipjaaSign3
namespace Go.Proofs.Ytahllgjmjnipjaa
open Go.Aw
set_option maxRecDepth 100000

def cmpI (x y : Int) : Int := if x < y then -1 else if y < x then 1 else 0
def cmpG {α : Type} (c : α → α → Int) : List α → List α → Int
  | [], [] => 0
  | [], _ :: _ => -1
  | _ :: _, [] => 1
  | x :: a, y :: b => if c x y = 0 then cmpG c a b else c x y
def cmpR : List Int → List Int → Int := cmpG cmpI
def cmpL : List (List Int) → List (List Int) → Int := cmpG cmpR

theorem cmpI_zero {x y : Int} (h : cmpI x y = 0) : x = y := by
  unfold cmpI at h
  split at h
  · omega
  · split at h <;> omega
theorem ne_of_bne {x y : Int} (h : (x != y) = true) : x ≠ y := by simpa using h
theorem eq_of_bne {x y : Int} (h : (x != y) = false) : x = y := by simpa using h
theorem cmpI_refl (x : Int) : cmpI x x = 0 := by simp [cmpI]
theorem cmpI_neg (x y : Int) : cmpI y x = - cmpI x y := by unfold cmpI; split <;> split <;> first | omega | (split <;> omega)
theorem cmpG_zero {α : Type} {c : α → α → Int} (hc : ∀ x y, c x y = 0 → x = y) : ∀ {a b : List α}, cmpG c a b = 0 → a = b
  | [], [], _ => rfl
  | [], _ :: _, h => by simp [cmpG] at h
  | _ :: _, [], h => by simp [cmpG] at h
  | x :: a, y :: b, h => by
      unfold cmpG at h
      split at h
      · rename_i h1; rw [hc _ _ h1, cmpG_zero hc h]
      · rename_i h1; exact absurd h h1
theorem cmpG_refl {α : Type} {c : α → α → Int} (hc : ∀ x, c x x = 0) : ∀ a : List α, cmpG c a a = 0
  | [] => rfl
  | x :: a => by unfold cmpG; rw [if_pos (hc x), cmpG_refl hc a]
theorem cmpG_neg {α : Type} {c : α → α → Int} (hc : ∀ x y, c y x = - c x y) : ∀ a b : List α, cmpG c b a = - cmpG c a b
  | [], [] => rfl
  | [], _ :: _ => rfl
  | _ :: _, [] => rfl
  | x :: a, y :: b => by
      have h1 := hc x y
      unfold cmpG
      by_cases h : c x y = 0
      · rw [if_pos (by omega), if_pos h, cmpG_neg hc a b]
      · rw [if_neg (by omega), if_neg h, h1]
theorem cmpR_zero {a b : List Int} (h : cmpR a b = 0) : a = b := cmpG_zero (fun _ _ => cmpI_zero) h
theorem cmpL_zero {a b : List (List Int)} (h : cmpL a b = 0) : a = b := cmpG_zero (fun _ _ => cmpR_zero) h
theorem cmpR_refl (a : List Int) : cmpR a a = 0 := cmpG_refl cmpI_refl a
theorem cmpL_refl (a : List (List Int)) : cmpL a a = 0 := cmpG_refl cmpR_refl a
theorem cmpR_neg (a b : List Int) : cmpR b a = - cmpR a b := cmpG_neg cmpI_neg a b
theorem cmpL_neg (a b : List (List Int)) : cmpL b a = - cmpL a b := cmpG_neg cmpR_neg a b
theorem drop_cons {α : Type} {l : List α} {x : Nat} (d : α) (h : x < l.length) : l.drop x = l.getD x d :: l.drop (x + 1) := by
  rw [List.drop_eq_getElem_cons h]; simp [List.getD, h]
theorem cmpG_one {α : Type} {c : α → α → Int} {a b : List α} {x : Nat} (d : α) (ha : x < a.length) (hb : ¬ x < b.length) (h : cmpG c (a.drop x) (b.drop x) = cmpG c a b) : cmpG c a b = 1 := by
  rw [← h, drop_cons d ha, List.drop_eq_nil_of_le (Nat.le_of_not_lt hb)]; rfl
theorem cmpG_ne {α : Type} {c : α → α → Int} {a b : List α} {x : Nat} (d : α) (ha : x < a.length) (hb : x < b.length) (hn : c (a.getD x d) (b.getD x d) ≠ 0) (h : cmpG c (a.drop x) (b.drop x) = cmpG c a b) : cmpG c a b = c (a.getD x d) (b.getD x d) := by
  rw [← h, drop_cons d ha, drop_cons d hb]; unfold cmpG; rw [if_neg hn]
theorem cmpG_eq {α : Type} {c : α → α → Int} {a b : List α} {x : Nat} (d : α) (ha : x < a.length) (hb : x < b.length) (hn : c (a.getD x d) (b.getD x d) = 0) (h : cmpG c (a.drop x) (b.drop x) = cmpG c a b) : cmpG c (a.drop (x + 1)) (b.drop (x + 1)) = cmpG c a b := by
  rw [← h, drop_cons d ha, drop_cons d hb]; conv => rhs; unfold cmpG
  rw [if_pos hn]
theorem cmpG_end {α : Type} {c : α → α → Int} {a b : List α} (h : cmpG c (a.drop a.length) (b.drop a.length) = cmpG c a b) : cmpG c a b = if a.length < b.length then -1 else 0 := by
  rw [← h, List.drop_length]
  split
  · rename_i h1; rw [List.drop_eq_getElem_cons h1]; rfl
  · rename_i h1; rw [List.drop_eq_nil_of_le (by omega)]; rfl

theorem isNaN_spec (x : Int) : FSpec Try.prog 70 [.c (.int .i64 x)] (ex (.c (.bool false)) []) := by
  refine fspec tyOk mx Try.func70 rfl (by kernel_rfl) rfl ?_
  conv => whnf
  simp [ex]
theorem cmpInt_spec (x y : Int) : FSpec Try.prog 68 [.c (.int .i64 x), .c (.int .i64 y)] (ex (.c (.int .i64 (cmpI x y))) []) := by
  refine fspec tyOk mx Try.func68 rfl (by kernel_rfl) rfl ?_
  conv => whnf
  refine ACall.use (isNaN_spec x) ?_
  conv => whnf
  refine ACall.use (isNaN_spec y) ?_
  conv => whnf
  (repeat (conv => whnf); (first | refine ⟨fun h => absurd h (by decide), fun _ => ?_⟩ | refine ⟨fun _ => ?_, fun h => absurd h (by decide)⟩)); conv => whnf
  refine ⟨fun h => ?_, fun h => ?_⟩
  · have h := of_decide_eq_true h
    conv => whnf
    exact ⟨by unfold cmpI; rw [if_pos h], rfl⟩
  · have h := of_decide_eq_false h
    conv => whnf
    refine ⟨fun h2 => ?_, fun h2 => ?_⟩
    · have h2 := of_decide_eq_true h2
      conv => whnf
      exact ⟨by unfold cmpI; rw [if_neg h, if_pos (by omega)], rfl⟩
    · have h2 := of_decide_eq_false h2
      conv => whnf
      exact ⟨by unfold cmpI; rw [if_neg h, if_neg (by omega)], rfl⟩

theorem cmpRow_spec (a b : List Int) (ha : a.length ≤ 9223372036854775806) (hb : b.length ≤ 9223372036854775806) :
    FSpec Try.prog 51 [.t (.ints .i64 a), .t (.ints .i64 b)] (ex (.c (.int .i64 (cmpR a b))) []) := by
  refine fspec tyOk mx Try.func51 rfl (by kernel_rfl) rfl ?_
  conv => whnf
  refine aloopI tyOk mx (fun x : Nat => (⟨36, [(0, .t (.ints .i64 a)), (1, .t (.ints .i64 b)), (9, .t (.ints .i64 a)), (10, .c (.int .i64 (a.length))), (11, .c (.int .i64 (x)))], [], 0⟩ : St)) (fun x => x ≤ a.length ∧ cmpR (a.drop x) (b.drop x) = cmpR a b) (fun x => a.length - x) 0 (by simp) none (by refine ⟨rfl, rfl, ?_, ?_⟩ <;> ((repeat' (first | exact trivial | exact rfl | refine And.intro ?_ ?_)) <;> (try ((conv => whnf); first | refine vint ?_ | refine vboo ?_ | refine rint ?_ | refine rrow ?_ | skip)) <;> (try first | omega | (simp; done) | ((repeat rw [flts_closed _ (by assumption)]); exact vws_closed _ (by assumption))))) (fun x hx => ?_)
  obtain ⟨hx, he⟩ := hx
  refine ⟨fun h => ?_, fun h => ?_⟩
  · have h := ltT h
    conv => whnf
    refine ⟨x, rfl, h, ?_⟩
    conv => whnf
    refine ⟨fun h2 => ?_, fun h2 => ?_⟩
    · have h2 := of_decide_eq_true h2
      conv => whnf
      exact ⟨by rw [show cmpR a b = 1 from cmpG_one 0 h (by omega) he], rfl⟩
    · have h2 := of_decide_eq_false h2
      conv => whnf
      refine ⟨x, rfl, by omega, ?_⟩
      conv => whnf
      refine ACall.use (cmpInt_spec _ _) ?_
      conv => whnf
      refine ⟨fun h3 => ?_, fun h3 => ?_⟩
      · have h3 := ne_of_bne h3
        conv => whnf
        exact ⟨by rw [show cmpR a b = _ from cmpG_ne 0 h (by omega) h3 he], rfl⟩
      · have h3 := eq_of_bne h3
        conv => whnf
        rw [nat_wrap (by omega)]
        refine ⟨x + 1, none, (by refine ⟨rfl, rfl, ?_, ?_⟩ <;> ((repeat' (first | exact trivial | exact rfl | refine And.intro ?_ ?_)) <;> (try ((conv => whnf); first | refine vint ?_ | refine vboo ?_ | refine rint ?_ | refine rrow ?_ | skip)) <;> (try first | omega | (simp; done) | ((repeat rw [flts_closed _ (by assumption)]); exact vws_closed _ (by assumption))))), ⟨by omega, cmpG_eq 0 h (by omega) (h3) he⟩, by omega⟩
  · have h := ltF h
    obtain rfl : x = a.length := by omega
    have e := cmpG_end he
    conv => whnf
    refine ⟨fun h2 => ?_, fun h2 => ?_⟩
    · have h2 := of_decide_eq_true h2
      conv => whnf
      exact ⟨by rw [show cmpR a b = _ from e, if_pos (by omega)], rfl⟩
    · have h2 := of_decide_eq_false h2
      conv => whnf
      exact ⟨by rw [show cmpR a b = _ from e, if_neg (by omega)], rfl⟩

theorem cmpRow1_spec (a b : List Int) (ha : a.length ≤ 9223372036854775806) (hb : b.length ≤ 9223372036854775806) :
    FSpec Try.prog 50 [.t (.ints .i64 a), .t (.ints .i64 b)] (ex (.c (.int .i64 (cmpR a b))) []) := by
  refine fspec tyOk mx Try.func50 rfl (by kernel_rfl) rfl ?_
  conv => whnf
  refine ACall.use (cmpRow_spec a b ha hb) ?_
  conv => whnf
  exact ⟨rfl, rfl⟩

theorem cmpFunc_spec (a b : List (List Int)) (ha : a.length ≤ 9223372036854775806) (hb : b.length ≤ 9223372036854775806)
    (ka : ∀ r, r ∈ a → r.length ≤ 9223372036854775806) (kb : ∀ r, r ∈ b → r.length ≤ 9223372036854775806) :
    FSpec Try.prog 49 [.t (.rows a), .t (.rows b), .clo 50 []] (ex (.c (.int .i64 (cmpL a b))) []) := by
  refine fspec tyOk mx Try.func49 rfl (by kernel_rfl) rfl ?_
  conv => whnf
  refine aloopI tyOk mx (fun x : Nat => (⟨39, [(0, .t (.rows a)), (1, .t (.rows b)), (2, .clo 50 []), (11, .t (.rows a)), (12, .c (.int .i64 (a.length))), (13, .c (.int .i64 (x)))], [], 0⟩ : St)) (fun x => x ≤ a.length ∧ cmpL (a.drop x) (b.drop x) = cmpL a b) (fun x => a.length - x) 0 (by simp) none (by refine ⟨rfl, rfl, ?_, ?_⟩ <;> ((repeat' (first | exact trivial | exact rfl | refine And.intro ?_ ?_)) <;> (try ((conv => whnf); first | refine vint ?_ | refine vboo ?_ | refine rint ?_ | refine rrow ?_ | skip)) <;> (try first | omega | (simp; done) | ((repeat rw [flts_closed _ (by assumption)]); exact vws_closed _ (by assumption))))) (fun x hx => ?_)
  obtain ⟨hx, he⟩ := hx
  refine ⟨fun h => ?_, fun h => ?_⟩
  · have h := ltT h
    conv => whnf
    refine ⟨x, rfl, h, ?_⟩
    conv => whnf
    refine ⟨fun h2 => ?_, fun h2 => ?_⟩
    · have h2 := of_decide_eq_true h2
      conv => whnf
      exact ⟨by rw [show cmpL a b = 1 from cmpG_one [] h (by omega) he], rfl⟩
    · have h2 := of_decide_eq_false h2
      have hb2 : x < b.length := by omega
      conv => whnf
      refine ⟨x, rfl, by omega, ?_⟩
      conv => whnf
      refine ACall.use (cmpRow1_spec _ _ (ka _ (getD_mem h)) (kb _ (getD_mem hb2))) ?_
      conv => whnf
      refine ⟨fun h3 => ?_, fun h3 => ?_⟩
      · have h3 := ne_of_bne h3
        conv => whnf
        exact ⟨by rw [show cmpL a b = _ from cmpG_ne [] h (by omega) h3 he], rfl⟩
      · have h3 := eq_of_bne h3
        conv => whnf
        rw [nat_wrap (by omega)]
        refine ⟨x + 1, none, (by refine ⟨rfl, rfl, ?_, ?_⟩ <;> ((repeat' (first | exact trivial | exact rfl | refine And.intro ?_ ?_)) <;> (try ((conv => whnf); first | refine vint ?_ | refine vboo ?_ | refine rint ?_ | refine rrow ?_ | skip)) <;> (try first | omega | (simp; done) | ((repeat rw [flts_closed _ (by assumption)]); exact vws_closed _ (by assumption))))), ⟨by omega, cmpG_eq [] h (by omega) (h3) he⟩, by omega⟩
  · have h := ltF h
    obtain rfl : x = a.length := by omega
    have e := cmpG_end he
    conv => whnf
    refine ⟨fun h2 => ?_, fun h2 => ?_⟩
    · have h2 := of_decide_eq_true h2
      conv => whnf
      exact ⟨by rw [show cmpL a b = _ from e, if_pos (by omega)], rfl⟩
    · have h2 := of_decide_eq_false h2
      conv => whnf
      exact ⟨by rw [show cmpL a b = _ from e, if_neg (by omega)], rfl⟩

theorem compareLists_spec (a b : List (List Int)) (ha : a.length ≤ 9223372036854775806) (hb : b.length ≤ 9223372036854775806)
    (ka : ∀ r, r ∈ a → r.length ≤ 9223372036854775806) (kb : ∀ r, r ∈ b → r.length ≤ 9223372036854775806) :
    FSpec Try.prog 26 [.t (.rows a), .t (.rows b)] (ex (.c (.int .i64 (cmpL a b))) []) := by
  refine fspec tyOk mx Try.func26 rfl (by kernel_rfl) rfl ?_
  conv => whnf
  refine ACall.use (cmpFunc_spec a b ha hb ka kb) ?_
  conv => whnf
  exact ⟨rfl, rfl⟩

theorem cmpI_val (x y : Int) (h : cmpI x y ≠ 0) : decide (cmpI x y < 0) = decide (x < y) := by
  have h0 : x ≠ y := fun e => h (by rw [e, cmpI_refl])
  unfold cmpI
  by_cases h1 : x < y
  · simp [h1]
  · rw [if_neg h1, if_pos (by omega)]; simp [h1]

/-- lists of lists of the same form -/
def Shp (a b : List (List Int)) : Prop := a.length = b.length ∧ ∀ x, (a.getD x []).length = (b.getD x []).length

theorem l5Less_spec (a b : List (List Int)) (hs : Shp a b) (ha : a.length ≤ 1000) (ka : ∀ r, r ∈ a → r.length ≤ 1000) :
    FSpec Try.prog 30 [.t (.rows a), .t (.rows b)] (ex (.c (.bool (decide (cmpL a b < 0)))) []) := by
  obtain ⟨s1, s2⟩ := hs
  refine fspec tyOk mx Try.func30 rfl (by kernel_rfl) rfl ?_
  conv => whnf
  refine aloopI tyOk mx (fun x : Nat => (⟨52, [(0, .t (.rows a)), (1, .t (.rows b)), (5, .c (.int .i64 (x)))], [], 0⟩ : St)) (fun x => x ≤ a.length ∧ cmpL (a.drop x) (b.drop x) = cmpL a b) (fun x => a.length - x) 0 (by simp) none (by refine ⟨rfl, rfl, ?_, ?_⟩ <;> ((repeat' (first | exact trivial | exact rfl | refine And.intro ?_ ?_)) <;> (try ((conv => whnf); first | refine vint ?_ | refine vboo ?_ | refine rint ?_ | refine rrow ?_ | skip)) <;> (try first | omega | (simp; done) | ((repeat rw [flts_closed _ (by assumption)]); exact vws_closed _ (by assumption))))) (fun x hx => ?_)
  obtain ⟨hx, he⟩ := hx
  refine ⟨fun h => ?_, fun h => ?_⟩
  · have h := ltT h
    have k1 := ka _ (getD_mem (d := []) h)
    have k2 := s2 x
    conv => whnf
    refine aloopI tyOk mx (fun y : Nat => (⟨52, [(0, .t (.rows a)), (1, .t (.rows b)), (5, .c (.int .i64 (x))), (6, .c (.int .i64 (y)))], [], 0⟩ : St)) (fun y => y ≤ (a.getD x []).length ∧ cmpR ((a.getD x []).drop y) ((b.getD x []).drop y) = cmpR (a.getD x []) (b.getD x [])) (fun y => (a.getD x []).length - y) 0 (by simp) none (by refine ⟨rfl, rfl, ?_, ?_⟩ <;> ((repeat' (first | exact trivial | exact rfl | refine And.intro ?_ ?_)) <;> (try ((conv => whnf); first | refine vint ?_ | refine vboo ?_ | refine rint ?_ | refine rrow ?_ | skip)) <;> (try first | omega | (simp; done) | ((repeat rw [flts_closed _ (by assumption)]); exact vws_closed _ (by assumption))))) (fun y hy => ?_)
    obtain ⟨hy, hf⟩ := hy
    refine ⟨x, rfl, h, fun h2 => ?_, fun h2 => ?_⟩
    · have h2 := ltT h2
      refine ADraw.std tyOk mx ⟨by kernel_rfl, x, rfl, h, y, rfl, h2, x, rfl, by omega, y, rfl, by omega, ?_⟩
      conv => whnf
      refine ⟨fun h3 => ?_, fun h3 => ?_⟩
      · have h3 := ne_of_bne h3
        have n3 : cmpI ((a.getD x []).getD y 0) ((b.getD x []).getD y 0) ≠ 0 := fun e => h3 (cmpI_zero e)
        have e1 : cmpR (a.getD x []) (b.getD x []) = _ := cmpG_ne 0 h2 (by omega) n3 hf
        have e2 : cmpL a b = _ := cmpG_ne [] h (by omega) (by rw [e1]; exact n3) he
        refine ADraw.std tyOk mx ⟨by kernel_rfl, x, rfl, h, y, rfl, h2, x, rfl, by omega, y, rfl, by omega, ?_⟩
        conv => whnf
        exact ⟨by rw [e2, e1, cmpI_val _ _ n3], rfl⟩
      · have h3 := eq_of_bne h3
        have n3 : cmpI ((a.getD x []).getD y 0) ((b.getD x []).getD y 0) = 0 := by rw [h3]; exact cmpI_refl _
        conv => whnf
        rw [nat_wrap (by omega)]
        refine ⟨y + 1, none, (by refine ⟨rfl, rfl, ?_, ?_⟩ <;> ((repeat' (first | exact trivial | exact rfl | refine And.intro ?_ ?_)) <;> (try ((conv => whnf); first | refine vint ?_ | refine vboo ?_ | refine rint ?_ | refine rrow ?_ | skip)) <;> (try first | omega | (simp; done) | ((repeat rw [flts_closed _ (by assumption)]); exact vws_closed _ (by assumption))))), ⟨by omega, cmpG_eq 0 h2 (by omega) n3 hf⟩, by omega⟩
    · have h2 := ltF h2
      obtain rfl : y = (a.getD x []).length := by omega
      have e := cmpG_end hf
      rw [if_neg (by omega)] at e
      conv => whnf
      rw [nat_wrap (by omega)]
      refine ⟨x + 1, none, (by refine ⟨rfl, rfl, ?_, ?_⟩ <;> ((repeat' (first | exact trivial | exact rfl | refine And.intro ?_ ?_)) <;> (try ((conv => whnf); first | refine vint ?_ | refine vboo ?_ | refine rint ?_ | refine rrow ?_ | skip)) <;> (try first | omega | (simp; done) | ((repeat rw [flts_closed _ (by assumption)]); exact vws_closed _ (by assumption))))), ⟨by omega, cmpG_eq [] h (by omega) e he⟩, by omega⟩
  · have h := ltF h
    obtain rfl : x = a.length := by omega
    have e := cmpG_end he
    rw [if_neg (by omega)] at e
    conv => whnf
    exact ⟨by rw [show cmpL a b = 0 from e]; rfl, rfl⟩
end Go.Proofs.Ytahllgjmjnipjaa
