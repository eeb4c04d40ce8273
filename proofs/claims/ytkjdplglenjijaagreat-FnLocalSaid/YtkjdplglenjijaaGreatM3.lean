/- What a box becomes: players swapped, questions in other orders, answers flipped; its triple worth. Program. -/
import Derived.Test.YtkjdplglenjijaaGreatM2
namespace Go.Aw
def enV (ny : Nat) (m : List (List Int)) (x y a c : Nat) : Int := (m.getD (x * ny + y) []).getD (2 * a + c) 0
def swG (nx ny : Nat) (m : List (List Int)) : List (List Int) := boxRows (fun x y a c => enV ny m y x c a) ny nx
def agG (ny : Nat) (m : List (List Int)) (f s : List Int) : List (List Int) := boxRows (fun x y a c => enV ny m (f.getD x 0).toNat (s.getD y 0).toNat a c) f.length s.length
/-- an answer, flipped or not -/
def xb (a : Nat) (f : Int) : Nat := if f = 0 then a else 1 - a
def flG (nx ny : Nat) (m : List (List Int)) (fl : List Int) : List (List Int) := boxRows (fun x y a c => enV ny m x y (xb a (fl.getD x 0)) (xb c (fl.getD (nx + y) 0))) nx ny
theorem xb_bits {a : Nat} {f : Int} (ha : a < 2) (hf : 0 ≤ f ∧ f ≤ 1) : bits .xor .i64 (a : Int) f = (xb a f : Int) := by
  have h1 : a = 0 ∨ a = 1 := by omega
  have h2 : f = 0 ∨ f = 1 := by omega
  rcases h1 with rfl | rfl <;> rcases h2 with rfl | rfl <;> rfl
theorem xb_lt {a : Nat} {f : Int} (ha : a < 2) : xb a f < 2 := by unfold xb; split <;> omega
/-- numbers that are not too great -/
def Bd (m : List (List Int)) : Prop := ∀ p q, 0 ≤ (m.getD p []).getD q 0 ∧ (m.getD p []).getD q 0 ≤ 1000
theorem Bd.of {m : List (List Int)} (h : ∀ r, r ∈ m → ∀ v, v ∈ r → 0 ≤ v ∧ v ≤ 1000) : Bd m := fun p q => by
  by_cases hp : p < m.length
  · by_cases hq : q < (m.getD p []).length
    · exact h _ (Go.Proofs.YtkjdplglenjijaaGreat.getD_mem hp) _ (Go.Proofs.YtkjdplglenjijaaGreat.getD_mem hq)
    · have e : (m.getD p []).getD q 0 = 0 := by rw [List.getD_eq_getElem?_getD, List.getElem?_eq_none (by omega)]; rfl
      rw [e]; omega
  · have e : m.getD p [] = [] := by rw [List.getD_eq_getElem?_getD, List.getElem?_eq_none (by omega)]; rfl
    rw [e]; simp
theorem Bd.rows {num : Nat → Nat → Nat → Nat → Int} {nx ny : Nat} (h : ∀ x y a c, 0 ≤ num x y a c ∧ num x y a c ≤ 1000) : Bd (boxRows num nx ny) := Bd.of fun r hr v hv => by
  rw [boxRows, List.mem_flatMap] at hr
  obtain ⟨i, _, hr⟩ := hr
  obtain ⟨k, _, rfl⟩ := List.mem_map.1 hr
  obtain ⟨p, _, rfl⟩ := List.mem_map.1 hv
  exact h _ _ _ _
theorem Bd.en {m : List (List Int)} (h : Bd m) (ny x y a c : Nat) : 0 ≤ enV ny m x y a c ∧ enV ny m x y a c ≤ 1000 := h _ _
/-- a box of three questions each: nine rows of four numbers that are not too great -/
structure R9 (m : List (List Int)) : Prop where
  len : m.length = 9
  four : ∀ r, r ∈ m → r.length = 4
  bd : Bd m
theorem boxRows_four {num : Nat → Nat → Nat → Nat → Int} {nx ny : Nat} : ∀ r, r ∈ boxRows num nx ny → r.length = 4 := fun r hr => by
  rw [boxRows, List.mem_flatMap] at hr
  obtain ⟨i, _, hr⟩ := hr
  obtain ⟨k, _, rfl⟩ := List.mem_map.1 hr
  simp [boxRow]
theorem R9.sw {m : List (List Int)} (h : R9 m) : R9 (swG 3 3 m) := ⟨boxRows_len _ 3 3, boxRows_four, Bd.rows fun _ _ _ _ => h.bd.en _ _ _ _ _⟩
theorem R9.ag {m : List (List Int)} (h : R9 m) {f s : List Int} (hf : f.length = 3) (hs : s.length = 3) : R9 (agG 3 m f s) := ⟨by rw [agG, boxRows_len, hf, hs], boxRows_four, Bd.rows fun _ _ _ _ => h.bd.en _ _ _ _ _⟩
theorem R9.fl {m : List (List Int)} (h : R9 m) (fl : List Int) : R9 (flG 3 3 m fl) := ⟨boxRows_len _ 3 3, boxRows_four, Bd.rows fun _ _ _ _ => h.bd.en _ _ _ _ _⟩
def n3 (m : List (List Int)) (p : Nat) : Int := (m.getD p []).getD 3 0
def o0 (m : List (List Int)) (p : Nat) : Int := (m.getD p []).getD 2 0 + (m.getD p []).getD 3 0
def o1 (m : List (List Int)) (p : Nat) : Int := (m.getD p []).getD 1 0 + (m.getD p []).getD 3 0
/-- the triple worth -/
def tv (m : List (List Int)) : Int := n3 m 0 + n3 m 1 + n3 m 2 + n3 m 3 + n3 m 4 - n3 m 5 + n3 m 6 - n3 m 7 - o0 m 0 - 2 * o1 m 0 - o1 m 1
theorem tv_bd {m : List (List Int)} (h : Bd m) : -20000 ≤ tv m ∧ tv m ≤ 20000 := by
  have a0 := h 0 3; have a1 := h 1 3; have a2 := h 2 3; have a3 := h 3 3; have a4 := h 4 3; have a5 := h 5 3; have a6 := h 6 3; have a7 := h 7 3
  have b0 := h 0 2; have b1 := h 0 1; have b2 := h 1 1
  unfold tv n3 o0 o1; omega
end Go.Aw
namespace Go.Proofs.YtkjdplglenjijaaGreat.L
open Go.Aw
set_option maxRecDepth 100000
set_option maxHeartbeats 4000000

theorem sw1_spec (nx ny : Nat) (hx : nx ≤ 3) (hy : ny ≤ 3) (z : Int) (m : List (List Int)) (hm : m.length = nx * ny) (h4 : ∀ r, r ∈ m → r.length = 4) (i k a b : Nat) (hi : i < ny) (hk : k < nx) (ha : a < 2) (hb : b < 2) :
    FSpec Tryz.prog 89 [.c (.int .i64 (i)), .c (.int .i64 (k)), .c (.int .i64 (a)), .c (.int .i64 (b)), .rp [.c (.int .i64 (nx)), .c (.int .i64 (ny)), .c (.int .i64 (z)), .t (.rows m)] 0] (ex (.c (.int .i64 (enV ny m k i b a))) []) := by
  have hix := ix_lt hk hi
  have hn : nx * ny ≤ 3 * 3 := Nat.mul_le_mul hx hy
  have hr := h4 _ (getD_mem (d := []) (show k * ny + i < m.length by omega))
  refine fspec tyOk mx Tryz.func89 rfl (by kernel_rfl) rfl ?_
  conv => whnf
  refine ACall.use (at_spec nx ny k i b a z m (by omega) (by omega) (by omega) (by omega)) ?_
  conv => whnf
  exact ⟨rfl, rfl⟩
theorem swapped_spec (nx ny : Nat) (hx : nx ≤ 3) (hy : ny ≤ 3) (z : Int) (m : List (List Int)) (hm : m.length = nx * ny) (h4 : ∀ r, r ∈ m → r.length = 4) :
    FSpec Tryz.prog 45 [.ag [.c (.int .i64 (nx)), .c (.int .i64 (ny)), .c (.int .i64 (z)), .t (.rows m)]] (ex (.ag [.c (.int .i64 (ny)), .c (.int .i64 (nx)), .c (.int .i64 (z)), .own 0]) [(0, .rows 38 3 true (swG nx ny m))]) := by
  refine fspec tyOk mx Tryz.func45 rfl (by kernel_rfl) rfl ?_
  conv => whnf
  refine ACall.use (newBox_spec ny nx z _ [.rp [.c (.int .i64 (nx)), .c (.int .i64 (ny)), .c (.int .i64 (z)), .t (.rows m)] 0] (fun x y a c => enV ny m y x c a) (by omega) (by omega) (fun _ _ => rfl) rfl (fun i k a b hi hk ha hb => sw1_spec nx ny hx hy z m hm h4 i k a b hi hk ha hb)) ?_
  conv => whnf
  exact ⟨rfl, rfl⟩
theorem ag1_spec (nx ny : Nat) (hx : nx ≤ 3) (hy : ny ≤ 3) (z : Int) (m : List (List Int)) (hm : m.length = nx * ny) (h4 : ∀ r, r ∈ m → r.length = 4) (f s : List Int) (hf : ∀ v, v ∈ f → 0 ≤ v ∧ v < nx) (hs : ∀ v, v ∈ s → 0 ≤ v ∧ v < ny)
    (i k a b : Nat) (hi : i < f.length) (hk : k < s.length) (ha : a < 2) (hb : b < 2) :
    FSpec Tryz.prog 101 [.c (.int .i64 (i)), .c (.int .i64 (k)), .c (.int .i64 (a)), .c (.int .i64 (b)), .rp [.c (.int .i64 (nx)), .c (.int .i64 (ny)), .c (.int .i64 (z)), .t (.rows m)] 0, .rp [.t (.ints .i64 f)] 0, .rp [.t (.ints .i64 s)] 0] (ex (.c (.int .i64 (enV ny m (f.getD i 0).toNat (s.getD k 0).toNat a b))) []) := by
  have f1 := hf _ (getD_mem (d := 0) hi)
  have s1 := hs _ (getD_mem (d := 0) hk)
  obtain ⟨p, ep⟩ : ∃ p : Nat, f.getD i 0 = p := ⟨(f.getD i 0).toNat, by omega⟩
  obtain ⟨q, eq⟩ : ∃ q : Nat, s.getD k 0 = q := ⟨(s.getD k 0).toNat, by omega⟩
  rw [ep] at f1
  rw [eq] at s1
  have hix := ix_lt (show p < nx by omega) (show q < ny by omega)
  have hn : nx * ny ≤ 3 * 3 := Nat.mul_le_mul hx hy
  have hr := h4 _ (getD_mem (d := []) (show p * ny + q < m.length by omega))
  refine fspec tyOk mx Tryz.func101 rfl (by kernel_rfl) rfl ?_
  conv => whnf
  refine ADraw.plan tyOk mx (.q 0 (.q 1 (.q 2 (.q 3 (.q 4 (.q 5 (.q 6 (.q 7 (.q 8 (.q 9 (.q 10 (.last 11 (.q 12 (.done))))))))))))) : Plan) (by kernel_rfl) ?_
  conv => whnf
  repeat' (first
    | (refine ⟨i, rfl, hi, ?_⟩; conv => whnf)
    | (refine ⟨k, rfl, hk, ?_⟩; conv => whnf)
    | (rw [ep, eq]; refine ACall.useR (at_spec nx ny p q a b z m (by omega) (by omega) (by omega) (by omega)) ?_; conv => whnf)
    | (refine And.intro ?_ ?_ <;> (conv => whnf)))
  all_goals rfl
theorem again_spec (nx ny : Nat) (hx : nx ≤ 3) (hy : ny ≤ 3) (z : Int) (m : List (List Int)) (hm : m.length = nx * ny) (h4 : ∀ r, r ∈ m → r.length = 4) (f s : List Int) (lf : f.length ≤ 3) (ls : s.length ≤ 3) (hf : ∀ v, v ∈ f → 0 ≤ v ∧ v < nx) (hs : ∀ v, v ∈ s → 0 ≤ v ∧ v < ny) :
    FSpec Tryz.prog 66 [.ag [.c (.int .i64 (nx)), .c (.int .i64 (ny)), .c (.int .i64 (z)), .t (.rows m)], .t (.ints .i64 f), .t (.ints .i64 s)] (ex (.ag [.c (.int .i64 (f.length)), .c (.int .i64 (s.length)), .c (.int .i64 (z)), .own 0]) [(0, .rows 38 3 true (agG ny m f s))]) := by
  refine fspec tyOk mx Tryz.func66 rfl (by kernel_rfl) rfl ?_
  conv => whnf
  refine ACall.use (newBox_spec f.length s.length z _ [.rp [.c (.int .i64 (nx)), .c (.int .i64 (ny)), .c (.int .i64 (z)), .t (.rows m)] 0, .rp [.t (.ints .i64 f)] 0, .rp [.t (.ints .i64 s)] 0] (fun x y a c => enV ny m (f.getD x 0).toNat (s.getD y 0).toNat a c) (by omega) (by omega) (fun _ _ => rfl) rfl (fun i k a b hi hk ha hb => ag1_spec nx ny hx hy z m hm h4 f s hf hs i k a b hi hk ha hb)) ?_
  conv => whnf
  exact ⟨rfl, rfl⟩
theorem fl1_spec (nx ny : Nat) (hx : nx ≤ 3) (hy : ny ≤ 3) (z : Int) (m : List (List Int)) (hm : m.length = nx * ny) (h4 : ∀ r, r ∈ m → r.length = 4) (fl : List Int) (lf : fl.length = nx + ny) (hf : ∀ v, v ∈ fl → 0 ≤ v ∧ v ≤ 1)
    (i k a b : Nat) (hi : i < nx) (hk : k < ny) (ha : a < 2) (hb : b < 2) :
    FSpec Tryz.prog 90 [.c (.int .i64 (i)), .c (.int .i64 (k)), .c (.int .i64 (a)), .c (.int .i64 (b)), .rp [.c (.int .i64 (nx)), .c (.int .i64 (ny)), .c (.int .i64 (z)), .t (.rows m)] 0, .rp [.t (.ints .i64 fl)] 0] (ex (.c (.int .i64 (enV ny m i k (xb a (fl.getD i 0)) (xb b (fl.getD (nx + k) 0))))) []) := by
  have f1 := hf _ (getD_mem (d := 0) (show i < fl.length by omega))
  have f2 := hf _ (getD_mem (d := 0) (show nx + k < fl.length by omega))
  have e1 := xb_bits ha f1
  have e2 := xb_bits hb f2
  have l1 := xb_lt (f := fl.getD i 0) ha
  have l2 := xb_lt (f := fl.getD (nx + k) 0) hb
  have eN : IntKind.i64.wrap ((nx : Int) + (k : Int)) = ((nx + k : Nat) : Int) := by rw [w64 (by omega) (by omega)]; omega
  have hix := ix_lt hi hk
  have hn : nx * ny ≤ 3 * 3 := Nat.mul_le_mul hx hy
  have hr := h4 _ (getD_mem (d := []) (show i * ny + k < m.length by omega))
  refine fspec tyOk mx Tryz.func90 rfl (by kernel_rfl) rfl ?_
  conv => whnf
  refine ADraw.plan tyOk mx (.q 0 (.q 1 (.q 2 (.q 3 (.q 4 (.q 5 (.q 6 (.q 7 (.q 8 (.q 9 (.q 10 (.q 11 (.q 12 (.q 13 (.q 14 (.q 15 (.q 16 (.q 17 (.last 18 (.q 19 (.done)))))))))))))))))))) : Plan) (by kernel_rfl) ?_
  conv => whnf
  repeat' (first
    | (refine ⟨i, rfl, by omega, ?_⟩; conv => whnf)
    | (refine ⟨nx + k, eN, by omega, ?_⟩; conv => whnf)
    | (rw [e1, e2]; refine ACall.useR (at_spec nx ny i k _ _ z m (by omega) (by omega) (by omega) (by omega)) ?_; conv => whnf)
    | (refine And.intro ?_ ?_ <;> (conv => whnf)))
  all_goals rfl
theorem flipped_spec (nx ny : Nat) (hx : nx ≤ 3) (hy : ny ≤ 3) (z : Int) (m : List (List Int)) (hm : m.length = nx * ny) (h4 : ∀ r, r ∈ m → r.length = 4) (fl : List Int) (lf : fl.length = nx + ny) (hf : ∀ v, v ∈ fl → 0 ≤ v ∧ v ≤ 1) :
    FSpec Tryz.prog 47 [.ag [.c (.int .i64 (nx)), .c (.int .i64 (ny)), .c (.int .i64 (z)), .t (.rows m)], .t (.ints .i64 fl)] (ex (.ag [.c (.int .i64 (nx)), .c (.int .i64 (ny)), .c (.int .i64 (z)), .own 0]) [(0, .rows 38 3 true (flG nx ny m fl))]) := by
  refine fspec tyOk mx Tryz.func47 rfl (by kernel_rfl) rfl ?_
  conv => whnf
  refine ACall.use (newBox_spec nx ny z _ [.rp [.c (.int .i64 (nx)), .c (.int .i64 (ny)), .c (.int .i64 (z)), .t (.rows m)] 0, .rp [.t (.ints .i64 fl)] 0] (fun x y a c => enV ny m x y (xb a (fl.getD x 0)) (xb c (fl.getD (nx + y) 0))) (by omega) (by omega) (fun _ _ => rfl) rfl (fun i k a b hi hk ha hb => fl1_spec nx ny hx hy z m hm h4 fl lf hf i k a b hi hk ha hb)) ?_
  conv => whnf
  exact ⟨rfl, rfl⟩
end Go.Proofs.YtkjdplglenjijaaGreat.L
/- Extreme boxes: the boxes of plays, reference and program. -/
namespace Go.Aw
def pbNum (play : List Int) (w : Int) (x y a b : Nat) : Int := if play.getD x 0 = a ∧ play.getD (2 + y) 0 = b then w else 0
def pbM (play : List Int) (w : Int) : List (List Int) := boxRows (pbNum play w) 2 2
theorem pb_row {play : List Int} {w : Int} {i k p q : Nat} (hp : play.getD i 0 = p) (hq : play.getD (2 + k) 0 = q) (h1 : p < 2) (h2 : q < 2) : (List.replicate 4 (0 : Int)).set (2 * p + q) w = boxRow (pbNum play w) i k := by
  unfold boxRow pbNum
  rw [hp, hq]
  have h1 : p = 0 ∨ p = 1 := by omega
  have h2 : q = 0 ∨ q = 1 := by omega
  rcases h1 with rfl | rfl <;> rcases h2 with rfl | rfl <;> rfl
theorem FSpec.told {P : Program} {f : FuncId} {args : List AVal} {x x' : AVal} {h : List (Nat × ARow)} (hs : FSpec P f args (ex x h)) (hv : vw h [] 0 x x') : FSpec P f args (ex x' []) :=
  hs.view (fun y hr e => by obtain ⟨rfl, rfl⟩ := e; exact ⟨[], x', [], rfl, trivial, hv, rfl, rfl⟩)
end Go.Aw
namespace Go.Proofs.YtkjdplglenjijaaGreat
open Go.Aw
set_option maxRecDepth 100000
set_option maxHeartbeats 4000000



theorem l2PlayBox_spec (play : List Int) (hl : play.length = 4) (h01 : ∀ v, v ∈ play → 0 ≤ v ∧ v ≤ 1) (w : Int) :
    FSpec Tryz.prog 85 [.c (.int .i64 (2)), .c (.int .i64 (2)), .t (.ints .i64 play), .c (.int .i64 (w))] (ex (.ag [.c (.int .i64 (2)), .c (.int .i64 (2)), .c (.int .i64 (w)), .own 0]) [(0, .rows 38 3 true (pbM play w))]) := by
  refine fspec tyOk mx Tryz.func85 rfl (by kernel_rfl) rfl ?_
  conv => whnf
  refine aloopI tyOk mx (fun i : Nat => (⟨51, [(0, .c (.int .i64 (2))), (1, .c (.int .i64 (2))), (2, .t (.ints .i64 play)), (3, .c (.int .i64 (w))), (8, .ptr 0 0), (9, .ptr 2 0), (10, .c (.int .i64 (i)))], [(0, .cells 26 [.c (.int .i64 (0)), .c (.int .i64 (0)), .c (.int .i64 (0)), .c (.slice none 0 0)]), (1, .rows 38 3 true (boxTo (pbNum play w) 2 i 0)), (2, .cells 26 [.c (.int .i64 (2)), .c (.int .i64 (2)), .c (.int .i64 (w)), .own 1])], 3⟩ : St)) (fun i => i ≤ 2) (fun i => 2 - i) 0 (Nat.zero_le _) none (by refine ⟨rfl, rfl, ?_, ?_⟩ <;> ((repeat' (first | exact trivial | exact rfl | refine And.intro ?_ ?_)) <;> (try ((conv => whnf); first | refine vint ?_ | refine vboo ?_ | refine rint ?_ | refine rrow ?_ | skip)) <;> (try first | omega | (simp; done) | ((repeat rw [flts_closed _ (by assumption)]); exact vws_closed _ (by assumption))))) (fun i hi => ?_)
  refine ⟨fun h => ?_, fun h => ?_⟩
  · have h : i < 2 := by have := of_decide_eq_true h; omega
    conv => whnf
    refine aloopI tyOk mx (fun k : Nat => (⟨51, [(0, .c (.int .i64 (2))), (1, .c (.int .i64 (2))), (2, .t (.ints .i64 play)), (3, .c (.int .i64 (w))), (8, .ptr 0 0), (9, .ptr 2 0), (10, .c (.int .i64 (i))), (11, .c (.int .i64 (k)))], [(0, .cells 26 [.c (.int .i64 (0)), .c (.int .i64 (0)), .c (.int .i64 (0)), .c (.slice none 0 0)]), (1, .rows 38 3 true (boxTo (pbNum play w) 2 i k)), (2, .cells 26 [.c (.int .i64 (2)), .c (.int .i64 (2)), .c (.int .i64 (w)), .own 1])], 3⟩ : St)) (fun k => k ≤ 2) (fun k => 2 - k) 0 (Nat.zero_le _) none (by refine ⟨rfl, rfl, ?_, ?_⟩ <;> ((repeat' (first | exact trivial | exact rfl | refine And.intro ?_ ?_)) <;> (try ((conv => whnf); first | refine vint ?_ | refine vboo ?_ | refine rint ?_ | refine rrow ?_ | skip)) <;> (try first | omega | (simp; done) | ((repeat rw [flts_closed _ (by assumption)]); exact vws_closed _ (by assumption))))) (fun k hk => ?_)
    have hlen := boxTo_len (pbNum play w) 2 i k
    refine ⟨fun h2 => ?_, fun h2 => ?_⟩
    · have h2 : k < 2 := by have := of_decide_eq_true h2; omega
      have hp := h01 _ (getD_mem (d := 0) (show i < play.length by omega))
      have hq := h01 _ (getD_mem (d := 0) (show 2 + k < play.length by omega))
      have e : IntKind.i64.wrap ((2 : Int) + (k : Int)) = ((2 + k : Nat) : Int) := by rw [w64 (by omega) (by omega)]; omega
      have e2 : IntKind.i64.wrap (IntKind.i64.wrap (2 * play.getD i 0) + play.getD (2 + k) 0) = ((2 * (play.getD i 0).toNat + (play.getD (2 + k) 0).toNat : Nat) : Int) := by
        rw [w64 (n := 2 * play.getD i 0) (by omega) (by omega), w64 (by omega) (by omega)]; omega
      conv => whnf
      refine ⟨4, rfl, rfl, by simp [room], ?_⟩
      conv => whnf
      refine ADraw.plan tyOk mx (.q 0 (.q 1 (.q 2 (.q 3 (.q 4 (.q 5 (.q 6 (.q 7 (.q 8 (.q 9 (.q 10 (.q 11 (.q 12 (.q 13 (.q 14 (.last 15 (.done)))))))))))))))) : Plan) (by kernel_rfl) ?_
      conv => whnf
      repeat' (first | (refine ⟨i, rfl, by omega, ?_⟩; conv => whnf) | (refine ⟨2 + k, e, by omega, ?_⟩; conv => whnf) | (refine ⟨2 * (play.getD i 0).toNat + (play.getD (2 + k) 0).toNat, e2, by rw [List.length_replicate]; omega, ?_⟩; conv => whnf) | (refine ⟨by simp [room]; omega, ?_⟩; conv => whnf) | (refine And.intro ?_ ?_ <;> (conv => whnf)))
      all_goals
        rw [nat_wrap (by omega)]
        refine ⟨k + 1, none, ?_, by omega, by omega⟩
        (refine ⟨rfl, rfl, ?_, ?_⟩ <;> ((repeat' (first | exact trivial | exact rfl | refine And.intro ?_ ?_)) <;> (try ((conv => whnf); first | refine vint ?_ | refine vboo ?_ | refine rint ?_ | refine rrow ?_ | skip)) <;> (try first | omega | (simp; done) | ((repeat rw [flts_closed _ (by assumption)]); exact vws_closed _ (by assumption)))))
        rw [← boxTo_row, ← pb_row (i := i) (k := k) (p := (play.getD i 0).toNat) (q := (play.getD (2 + k) 0).toNat) (by omega) (by omega) (by omega) (by omega)]
    · have h2 : ¬ k < 2 := by have := of_decide_eq_false h2; omega
      obtain rfl : k = 2 := by omega
      conv => whnf
      rw [nat_wrap (by omega)]
      refine ⟨i + 1, none, ?_, by omega, by omega⟩
      (refine ⟨rfl, rfl, ?_, ?_⟩ <;> ((repeat' (first | exact trivial | exact rfl | refine And.intro ?_ ?_)) <;> (try ((conv => whnf); first | refine vint ?_ | refine vboo ?_ | refine rint ?_ | refine rrow ?_ | skip)) <;> (try first | omega | (simp; done) | ((repeat rw [flts_closed _ (by assumption)]); exact vws_closed _ (by assumption)))))
      exact boxTo_end _ 2 i
  · have h : ¬ i < 2 := by have := of_decide_eq_false h; omega
    obtain rfl : i = 2 := by omega
    conv => whnf
    exact ⟨rfl, by rw [boxTo_all]; rfl⟩
end Go.Proofs.YtkjdplglenjijaaGreat
/- The triple worth, the greatest one of all that a box becomes, and whether a box is local: program. -/
namespace Go.Aw
def ords : List (List Int) := [[0, 1, 2], [0, 2, 1], [1, 0, 2], [1, 2, 0], [2, 0, 1], [2, 1, 0]]
def stt (m : List (List Int)) : Nat → List (List Int)
  | 0 => m
  | _ => swG 3 3 m
/-- what a box becomes -/
def trm (m : List (List Int)) (s : Nat) (f g fl : List Int) : List (List Int) := flG 3 3 (agG 3 (stt m s) f g) fl
def OkFl (fl : List Int) : Prop := fl.length = 6 ∧ ∀ v, v ∈ fl → 0 ≤ v ∧ v ≤ 1
theorem R9.st {m : List (List Int)} (h : R9 m) (s : Nat) : R9 (stt m s) := by
  match s with
  | 0 => exact h
  | _ + 1 => exact h.sw
theorem ords_ok {f : List Int} (h : f ∈ ords) : f.length = 3 ∧ ∀ v, v ∈ f → 0 ≤ v ∧ v < 3 := by
  simp only [ords, List.mem_cons, List.not_mem_nil, or_false] at h
  rcases h with rfl | rfl | rfl | rfl | rfl | rfl <;> exact ⟨rfl, fun v hv => by simp only [List.mem_cons, List.not_mem_nil, or_false] at hv; omega⟩
theorem ords_at {i : Nat} (h : i < 6) : ords.getD i [] ∈ ords := by
  have : i = 0 ∨ i = 1 ∨ i = 2 ∨ i = 3 ∨ i = 4 ∨ i = 5 := by omega
  rcases this with rfl | rfl | rfl | rfl | rfl | rfl <;> simp [ords]
theorem ords_ix {f : List Int} (h : f ∈ ords) : ∃ i, i < 6 ∧ ords.getD i [] = f := by
  simp only [ords, List.mem_cons, List.not_mem_nil, or_false] at h
  rcases h with rfl | rfl | rfl | rfl | rfl | rfl
  · exact ⟨0, by omega, rfl⟩
  · exact ⟨1, by omega, rfl⟩
  · exact ⟨2, by omega, rfl⟩
  · exact ⟨3, by omega, rfl⟩
  · exact ⟨4, by omega, rfl⟩
  · exact ⟨5, by omega, rfl⟩
theorem fl_at {u : Nat} (h : u < 64) : OkFl ((playsL 6).getD u []) := playsL_row (by omega) (by rw [playsL_len]; omega)
theorem fl_ix {fl : List Int} (h : OkFl fl) : ∃ u, u < 64 ∧ (playsL 6).getD u [] = fl := by
  obtain ⟨hl, hv⟩ := h
  match fl, hl with
  | [a, b, c, d, e, f], _ =>
    have ha := hv a (by simp); have hb := hv b (by simp); have hc := hv c (by simp); have hd := hv d (by simp); have he := hv e (by simp); have hf := hv f (by simp)
    have key : ∀ a b c d e f : Nat, a < 2 → b < 2 → c < 2 → d < 2 → e < 2 → f < 2 → ∃ u, u < 64 ∧ (playsL 6).getD u [] = [(a : Int), b, c, d, e, f] := fun a b c d e f h1 h2 h3 h4 h5 h6 => ⟨32 * a + 16 * b + 8 * c + 4 * d + 2 * e + f, by omega, by
      have : ∀ u : Nat, u < 64 → (playsL 6).getD u [] = [((u / 32 % 2 : Nat) : Int), ((u / 16 % 2 : Nat) : Int), ((u / 8 % 2 : Nat) : Int), ((u / 4 % 2 : Nat) : Int), ((u / 2 % 2 : Nat) : Int), ((u % 2 : Nat) : Int)] := by decide +kernel
      rw [this _ (by omega)]
      congr 1
      · congr 1; omega
      congr 1
      · congr 1; omega
      congr 1
      · congr 1; omega
      congr 1
      · congr 1; omega
      congr 1
      · congr 1; omega
      congr 1
      congr 1; omega⟩
    obtain ⟨u, hu, e2⟩ := key a.toNat b.toNat c.toNat d.toNat e.toNat f.toNat (by omega) (by omega) (by omega) (by omega) (by omega) (by omega)
    refine ⟨u, hu, ?_⟩
    rw [e2, Int.toNat_of_nonneg ha.1, Int.toNat_of_nonneg hb.1, Int.toNat_of_nonneg hc.1, Int.toNat_of_nonneg hd.1, Int.toNat_of_nonneg he.1, Int.toNat_of_nonneg hf.1]
/-- the greatest triple worth -/
structure GTrip (m : List (List Int)) (g : Int) : Prop where
  all : ∀ s f h fl, s < 2 → f ∈ ords → h ∈ ords → OkFl fl → tv (trm m s f h fl) ≤ g
  own : ∃ s f h fl, s < 2 ∧ f ∈ ords ∧ h ∈ ords ∧ OkFl fl ∧ g = tv (trm m s f h fl)
theorem GTrip.one {m : List (List Int)} {g g' : Int} (h : GTrip m g) (h' : GTrip m g') : g = g' := by
  have key : ∀ {g g' : Int}, GTrip m g → GTrip m g' → g ≤ g' := fun {g g'} h h' => by
    obtain ⟨s, f, k, fl, h1, h2, h3, h4, e⟩ := h.own
    rw [e]; exact h'.all s f k fl h1 h2 h3 h4
  have := key h h'
  have := key h' h
  omega
/-- nothing done leaves the rows -/
theorem trm_id {m : List (List Int)} (h : R9 m) : trm m 0 [0, 1, 2] [0, 1, 2] [0, 0, 0, 0, 0, 0] = m := by
  obtain ⟨hl, h4, hb⟩ := h
  match m, hl with
  | [r0, r1, r2, r3, r4, r5, r6, r7, r8], _ =>
    have q := fun r hr => h4 r hr
    have f4 : ∀ r : List Int, r.length = 4 → ∃ a b c d, r = [a, b, c, d] := fun r hr => by
      match r, hr with
      | [a, b, c, d], _ => exact ⟨a, b, c, d, rfl⟩
    obtain ⟨_, _, _, _, rfl⟩ := f4 r0 (h4 _ (by simp))
    obtain ⟨_, _, _, _, rfl⟩ := f4 r1 (h4 _ (by simp))
    obtain ⟨_, _, _, _, rfl⟩ := f4 r2 (h4 _ (by simp))
    obtain ⟨_, _, _, _, rfl⟩ := f4 r3 (h4 _ (by simp))
    obtain ⟨_, _, _, _, rfl⟩ := f4 r4 (h4 _ (by simp))
    obtain ⟨_, _, _, _, rfl⟩ := f4 r5 (h4 _ (by simp))
    obtain ⟨_, _, _, _, rfl⟩ := f4 r6 (h4 _ (by simp))
    obtain ⟨_, _, _, _, rfl⟩ := f4 r7 (h4 _ (by simp))
    obtain ⟨_, _, _, _, rfl⟩ := f4 r8 (h4 _ (by simp))
    rfl
/-- what is done so far -/
def tvI (m : List (List Int)) (s i j u : Nat) : Int := tv (trm m s (ords.getD i []) (ords.getD j []) ((playsL 6).getD u []))
structure TTo (m : List (List Int)) (S I J U : Nat) (g : Int) : Prop where
  bd : -20000 ≤ g ∧ g ≤ 20000
  all : ∀ s i j u, s < 2 → i < 6 → j < 6 → u < 64 → (s < S ∨ (s = S ∧ (i < I ∨ (i = I ∧ (j < J ∨ (j = J ∧ u < U)))))) → tvI m s i j u ≤ g
  own : ∃ s f h fl, s < 2 ∧ f ∈ ords ∧ h ∈ ords ∧ OkFl fl ∧ g = tv (trm m s f h fl)
theorem trm_R9 {m : List (List Int)} (h : R9 m) (s : Nat) {f k : List Int} (hf : f ∈ ords) (hk : k ∈ ords) (fl : List Int) : R9 (trm m s f k fl) := ((h.st s).ag (ords_ok hf).1 (ords_ok hk).1).fl fl
theorem TTo.zero {m : List (List Int)} (h : R9 m) : TTo m 0 0 0 0 (tv m) :=
  ⟨tv_bd h.bd, fun s i j u _ _ _ _ h => by omega, ⟨0, [0, 1, 2], [0, 1, 2], [0, 0, 0, 0, 0, 0], by omega, by simp [ords], by simp [ords], ⟨rfl, fun v hv => by simp at hv; omega⟩, by rw [trm_id h]⟩⟩
theorem TTo.nextU {m : List (List Int)} {S I J U : Nat} {g g' : Int} (hm : R9 m) (h : TTo m S I J U g) (hS : S < 2) (hI : I < 6) (hJ : J < 6) (hU : U < 64) (hg : g' = if tvI m S I J U > g then tvI m S I J U else g) : TTo m S I J (U + 1) g' := by
  have hb := tv_bd (trm_R9 hm S (ords_at hI) (ords_at hJ) ((playsL 6).getD U [])).bd
  have hb' : -20000 ≤ tvI m S I J U ∧ tvI m S I J U ≤ 20000 := hb
  have h0 := h.bd
  have h1 : tvI m S I J U ≤ g' ∧ g ≤ g' := by rw [hg]; split <;> omega
  refine ⟨by rw [hg]; split <;> omega, fun s i j u a1 a2 a3 a4 ho => ?_, ?_⟩
  · by_cases e : s = S ∧ i = I ∧ j = J ∧ u = U
    · obtain ⟨rfl, rfl, rfl, rfl⟩ := e; exact h1.1
    · exact Int.le_trans (h.all s i j u a1 a2 a3 a4 (by omega)) h1.2
  · rw [hg]; split
    · exact ⟨S, _, _, _, hS, ords_at hI, ords_at hJ, fl_at hU, rfl⟩
    · exact h.own
theorem TTo.nextJ {m : List (List Int)} {S I J : Nat} {g : Int} (h : TTo m S I J 64 g) : TTo m S I (J + 1) 0 g := ⟨h.bd, fun s i j u a1 a2 a3 a4 ho => h.all s i j u a1 a2 a3 a4 (by omega), h.own⟩
theorem TTo.nextI {m : List (List Int)} {S I : Nat} {g : Int} (h : TTo m S I 6 0 g) : TTo m S (I + 1) 0 0 g := ⟨h.bd, fun s i j u a1 a2 a3 a4 ho => h.all s i j u a1 a2 a3 a4 (by omega), h.own⟩
theorem TTo.nextS {m : List (List Int)} {S : Nat} {g : Int} (h : TTo m S 6 0 0 g) : TTo m (S + 1) 0 0 0 g := ⟨h.bd, fun s i j u a1 a2 a3 a4 ho => h.all s i j u a1 a2 a3 a4 (by omega), h.own⟩
theorem TTo.fin {m : List (List Int)} {g : Int} (h : TTo m 2 0 0 0 g) : GTrip m g :=
  ⟨fun s f k fl a1 a2 a3 a4 => by
    obtain ⟨i, hi, rfl⟩ := ords_ix a2
    obtain ⟨j, hj, rfl⟩ := ords_ix a3
    obtain ⟨u, hu, rfl⟩ := fl_ix a4
    exact h.all s i j u a1 hi hj hu (by omega), h.own⟩
theorem wSm {n : Int} (h1 : -100000 ≤ n) (h2 : n ≤ 100000) : IntKind.i64.wrap n = n := w64 (by omega) (by omega)
end Go.Aw
namespace Go.Proofs.YtkjdplglenjijaaGreat.L
open Go.Aw
set_option maxRecDepth 100000
set_option maxHeartbeats 4000000

theorem tr1_spec (x y : Nat) (hx : x < 3) (hy : y < 3) (z : Int) (m : List (List Int)) (hm : m.length = 9) (h4 : ∀ r, r ∈ m → r.length = 4) :
    FSpec Tryz.prog 62 [.c (.int .i64 (x)), .c (.int .i64 (y)), .rp [.c (.int .i64 (3)), .c (.int .i64 (3)), .c (.int .i64 (z)), .t (.rows m)] 0] (ex (.c (.int .i64 (n3 m (x * 3 + y)))) []) := by
  have hr := h4 _ (getD_mem (d := []) (show x * 3 + y < m.length by omega))
  refine fspec tyOk mx Tryz.func62 rfl (by kernel_rfl) rfl ?_
  conv => whnf
  refine ACall.use (at_spec 3 3 x y 1 1 z m (by omega) (by omega) (by omega) (by omega)) ?_
  conv => whnf
  exact ⟨rfl, rfl⟩
theorem triple_spec (z : Int) (m : List (List Int)) (h9 : R9 m) : FSpec Tryz.prog 28 [.ag [.c (.int .i64 (3)), .c (.int .i64 (3)), .c (.int .i64 (z)), .t (.rows m)]] (ex (.c (.int .i64 (tv m))) []) := by
  obtain ⟨hm, h4, hb⟩ := h9
  have a0 := hb 0 3; have a1 := hb 1 3; have a2 := hb 2 3; have a3 := hb 3 3; have a4 := hb 4 3; have a5 := hb 5 3; have a6 := hb 6 3; have a7 := hb 7 3
  have b0 := hb 0 2; have b1 := hb 0 1; have b2 := hb 1 1
  have t1 := fun x y hx hy => tr1_spec x y hx hy z m hm h4
  have hc : (cntL 3 3 m).length = 6 := by simp [cntL]
  refine fspec tyOk mx Tryz.func28 rfl (by kernel_rfl) rfl ?_
  conv => whnf
  refine ACall.use (counts_spec 3 3 z m (by omega) (by omega) (by omega) (by omega) hm h4) ?_
  conv => whnf
  refine ADraw.std tyOk mx ⟨by kernel_rfl, ?_⟩
  conv => whnf
  refine QCall.use (t1 0 0 (by omega) (by omega)) ?_
  conv => whnf
  refine QCall.use (t1 0 1 (by omega) (by omega)) ?_
  conv => whnf
  refine QCall.use (t1 0 2 (by omega) (by omega)) ?_
  conv => whnf
  refine QCall.use (t1 1 0 (by omega) (by omega)) ?_
  conv => whnf
  refine QCall.use (t1 1 1 (by omega) (by omega)) ?_
  conv => whnf
  refine QCall.use (t1 1 2 (by omega) (by omega)) ?_
  conv => whnf
  refine QCall.use (t1 2 0 (by omega) (by omega)) ?_
  conv => whnf
  refine QCall.use (t1 2 1 (by omega) (by omega)) ?_
  conv => whnf
  refine ⟨0, rfl, by omega, ?_⟩
  conv => whnf
  refine ⟨3, rfl, by omega, ?_⟩
  conv => whnf
  refine ⟨4, rfl, by omega, ?_⟩
  conv => whnf
  have c0 : (cntL 3 3 m).getD 0 0 = IntKind.i64.wrap (o0 m 0) := rfl
  have c3 : (cntL 3 3 m).getD 3 0 = IntKind.i64.wrap (o1 m 0) := rfl
  have c4 : (cntL 3 3 m).getD 4 0 = IntKind.i64.wrap (o1 m 1) := rfl
  rw [c0, c3, c4]
  refine ⟨?_, rfl⟩
  congr 2
  unfold o0 o1 n3
  simp only [Nat.reduceMul, Nat.reduceAdd]
  simp (disch := omega) only [wSm]
  rfl
end Go.Proofs.YtkjdplglenjijaaGreat.L
/- The greatest triple worth; whether a box is local: program. -/
namespace Go.Aw
/-- local, as the program has it -/
structure Loc (nx ny : Nat) (z : Int) (m : List (List Int)) : Prop where
  quiet : quietF nx ny m = true
  sums : ∀ a b c d k, a < b → b < nx → c < d → d < ny → k < 4 → abV (sum4V ny m a b c d k) ≤ 2 * z
  trip : nx = 3 → ny = 3 → ∀ s f h fl, s < 2 → f ∈ ords → h ∈ ords → OkFl fl → tv (trm m s f h fl) ≤ 0
noncomputable def locB (nx ny : Nat) (z : Int) (m : List (List Int)) : Bool := @decide (Loc nx ny z m) (Classical.propDecidable _)
theorem locB_true {nx ny : Nat} {z : Int} {m : List (List Int)} : locB nx ny z m = true ↔ Loc nx ny z m := by simp [locB]
theorem locB_of {nx ny : Nat} {z : Int} {m : List (List Int)} {b : Bool} (h : b = true ↔ Loc nx ny z m) : locB nx ny z m = b := by
  by_cases hl : Loc nx ny z m
  · rw [locB_true.2 hl, h.2 hl]
  · cases hb : b with
    | true => exact absurd (h.1 hb) hl
    | false =>
      cases hc : locB nx ny z m with
      | true => exact absurd (locB_true.1 hc) hl
      | false => rfl
theorem GSum.le {nx ny : Nat} {m : List (List Int)} {g : Int} (h : GSum nx ny m g) {z : Int} (hz : 0 ≤ z) : g ≤ z ↔ ∀ a b c d k, a < b → b < nx → c < d → d < ny → k < 4 → abV (sum4V ny m a b c d k) ≤ z :=
  ⟨fun hg a b c d k h1 h2 h3 h4 h5 => Int.le_trans (h.all a b c d k h1 h2 h3 h4 h5) hg, fun hs => by
    rcases h.own with e | ⟨a, b, c, d, k, h1, h2, h3, h4, h5, e⟩
    · omega
    · rw [e]; exact hs a b c d k h1 h2 h3 h4 h5⟩
theorem GTrip.le {m : List (List Int)} {g : Int} (h : GTrip m g) {z : Int} : g ≤ z ↔ ∀ s f k fl, s < 2 → f ∈ ords → k ∈ ords → OkFl fl → tv (trm m s f k fl) ≤ z :=
  ⟨fun hg s f k fl h1 h2 h3 h4 => Int.le_trans (h.all s f k fl h1 h2 h3 h4) hg, fun hs => by
    obtain ⟨s, f, k, fl, h1, h2, h3, h4, e⟩ := h.own
    rw [e]; exact hs s f k fl h1 h2 h3 h4⟩
end Go.Aw
namespace Go.Proofs.YtkjdplglenjijaaGreat.L
open Go.Aw
set_option maxRecDepth 100000
set_option maxHeartbeats 16000000

def gtP (m : List (List Int)) : AVal → List (Nat × ARow) → Prop := fun v h => h = [] ∧ ∃ g : Int, GTrip m g ∧ v = .c (.int .i64 g)
theorem greatestTriple_spec (z : Int) (m : List (List Int)) (h9 : R9 m) : FSpec Tryz.prog 31 [.ag [.c (.int .i64 (3)), .c (.int .i64 (3)), .c (.int .i64 (z)), .t (.rows m)]] (gtP m) := by
  have hpl : (playsL 6).length = 64 := playsL_len 6
  refine fspec tyOk mx Tryz.func31 rfl (by kernel_rfl) rfl ?_
  conv => whnf
  refine ACall.use (triple_spec z m h9) ?_
  conv => whnf
  refine ADraw.plan tyOk mx (.q 0 (.q 1 (.q 4 (.last 2 (.q 3 (.done))))) : Plan) (by kernel_rfl) ?_
  conv => whnf
  repeat' (first
    | (refine ACall.useR (FSpec.toldL (swapped_spec 3 3 (by omega) (by omega) z m h9.len h9.four) (x' := .ag [.c (.int .i64 (3)), .c (.int .i64 (3)), .c (.int .i64 (z)), .t (.rows (swG 3 3 m))]) ⟨rfl, rfl, rfl, ⟨rfl, rfl⟩, trivial⟩) ?_; conv => whnf)
    | (refine And.intro ?_ ?_ <;> (conv => whnf)))
  all_goals
    refine aloopI tyOk mx (fun i : Nat × Int => (⟨63, [(1, .ptr 0 0), (2, .c (.int .i64 (0))), (3, .own 1), (4, .c (.int .i64 (i.2))), (26, .ag [.c (.int .i64 (3)), .c (.int .i64 (3)), .c (.int .i64 (z)), .t (.rows m), .c (.int .i64 (3)), .c (.int .i64 (3)), .c (.int .i64 (z)), .t (.rows (swG 3 3 m))]), (27, .c (.int .i64 (i.1)))], [(0, .cells 26 [.c (.int .i64 (3)), .c (.int .i64 (3)), .c (.int .i64 (z)), .t (.rows m)]), (1, .rows 38 3 true ords)], 2⟩ : St)) (fun i => i.1 ≤ 2 ∧ TTo m i.1 0 0 0 i.2) (fun i => 2 - i.1) (0, tv m) ⟨by simp only; omega, TTo.zero h9⟩ (some [(0, .row 0), (1, .row 7)]) (by (refine ⟨rfl, rfl, ?_, ?_⟩ <;> ((repeat' (first | exact trivial | exact rfl | refine And.intro ?_ ?_)) <;> (try ((conv => whnf); first | refine vint ?_ | refine vboo ?_ | refine rint ?_ | refine rrow ?_ | skip)) <;> (try first | omega | (simp; done) | ((repeat rw [flts_closed _ (by assumption)]); exact vws_closed _ (by assumption)))))) (fun i hi => ?_)
    obtain ⟨i, g⟩ := i
    obtain ⟨i1, i2⟩ := hi
    simp only at i1 i2
    dsimp only
    refine ⟨fun h => ?_, fun h => ?_⟩
    · have h : i < 2 := by have := of_decide_eq_true h; omega
      have hc : i = 0 ∨ i = 1 := by omega
      rcases hc with rfl | rfl
      · conv => whnf
        refine ⟨0, rfl, by omega, ?_⟩
        conv => whnf
        have r9 : R9 (stt m 0) := h9.st 0
        refine aloopI tyOk mx (fun j : Nat × Int => (⟨63, [(1, .ptr 0 0), (2, .c (.int .i64 (0))), (3, .own 1), (4, .c (.int .i64 (j.2))), (6, .ptr 2 0), (26, .ag [.c (.int .i64 (3)), .c (.int .i64 (3)), .c (.int .i64 (z)), .t (.rows m), .c (.int .i64 (3)), .c (.int .i64 (3)), .c (.int .i64 (z)), .t (.rows (swG 3 3 m))]), (27, .c (.int .i64 ((0 : Nat)))), (30, .own 1), (31, .c (.int .i64 (6))), (32, .c (.int .i64 (j.1)))], [(0, .cells 26 [.c (.int .i64 (3)), .c (.int .i64 (3)), .c (.int .i64 (z)), .t (.rows m)]), (1, .rows 38 3 true ords), (2, .cells 26 [.c (.int .i64 (3)), .c (.int .i64 (3)), .c (.int .i64 (z)), .t (.rows (stt m 0))])], 3⟩ : St)) (fun j => j.1 ≤ 6 ∧ TTo m 0 j.1 0 0 j.2) (fun j => 6 - j.1) (0, g) ⟨by simp only; omega, i2⟩ none (by refine ⟨rfl, rfl, ?_, ?_⟩ <;> ((repeat' (first | exact trivial | exact rfl | refine And.intro ?_ ?_)) <;> (try ((conv => whnf); first | refine vint ?_ | refine vboo ?_ | refine rint ?_ | refine rrow ?_ | skip)) <;> (try first | omega | (simp; done) | ((repeat rw [flts_closed _ (by assumption)]); exact vws_closed _ (by assumption))))) (fun j hj => ?_)
        obtain ⟨j, g⟩ := j
        obtain ⟨j1, j2⟩ := hj
        simp only at j1 j2
        dsimp only
        refine ⟨fun h2 => ?_, fun h2 => ?_⟩
        · have h2 : j < 6 := by have := of_decide_eq_true h2; omega
          have of1 := ords_ok (ords_at h2)
          conv => whnf
          refine ⟨j, rfl, h2, ?_⟩
          conv => whnf
          refine aloopI tyOk mx (fun k : Nat × Int => (⟨63, [(1, .ptr 0 0), (2, .c (.int .i64 (0))), (3, .own 1), (4, .c (.int .i64 (k.2))), (6, .ptr 2 0), (8, .sub 1 j), (26, .ag [.c (.int .i64 (3)), .c (.int .i64 (3)), .c (.int .i64 (z)), .t (.rows m), .c (.int .i64 (3)), .c (.int .i64 (3)), .c (.int .i64 (z)), .t (.rows (swG 3 3 m))]), (27, .c (.int .i64 ((0 : Nat)))), (30, .own 1), (31, .c (.int .i64 (6))), (32, .c (.int .i64 (j))), (36, .own 1), (37, .c (.int .i64 (6))), (38, .c (.int .i64 (k.1)))], [(0, .cells 26 [.c (.int .i64 (3)), .c (.int .i64 (3)), .c (.int .i64 (z)), .t (.rows m)]), (1, .rows 38 3 true ords), (2, .cells 26 [.c (.int .i64 (3)), .c (.int .i64 (3)), .c (.int .i64 (z)), .t (.rows (stt m 0))])], 3⟩ : St)) (fun k => k.1 ≤ 6 ∧ TTo m 0 j k.1 0 k.2) (fun k => 6 - k.1) (0, g) ⟨by simp only; omega, j2⟩ none (by refine ⟨rfl, rfl, ?_, ?_⟩ <;> ((repeat' (first | exact trivial | exact rfl | refine And.intro ?_ ?_)) <;> (try ((conv => whnf); first | refine vint ?_ | refine vboo ?_ | refine rint ?_ | refine rrow ?_ | skip)) <;> (try first | omega | (simp; done) | ((repeat rw [flts_closed _ (by assumption)]); exact vws_closed _ (by assumption))))) (fun k hk => ?_)
          obtain ⟨k, g⟩ := k
          obtain ⟨k1, k2⟩ := hk
          simp only at k1 k2
          dsimp only
          refine ⟨fun h3 => ?_, fun h3 => ?_⟩
          · have h3 : k < 6 := by have := of_decide_eq_true h3; omega
            have of2 := ords_ok (ords_at h3)
            have ra : R9 (agG 3 (stt m 0) (ords.getD j []) (ords.getD k [])) := r9.ag of1.1 of2.1
            conv => whnf
            refine ⟨k, rfl, h3, ?_⟩
            conv => whnf
            refine ACall.use (again_spec 3 3 (by omega) (by omega) z (stt m 0) r9.len r9.four (ords.getD j []) (ords.getD k []) (by omega) (by omega) of1.2 of2.2) ?_
            rw [of1.1, of2.1]
            conv => whnf
            refine ACall.use (FSpec.toldL (plays_spec 3 3 (by omega)) (x' := .t (.rows (playsL 6))) ⟨rfl, rfl⟩) ?_
            conv => whnf
            refine aloopI tyOk mx (fun u : Nat × Int => (⟨63, [(1, .ptr 0 0), (2, .c (.int .i64 (0))), (3, .own 1), (4, .c (.int .i64 (u.2))), (6, .ptr 2 0), (8, .sub 1 j), (11, .ptr 3 0), (26, .ag [.c (.int .i64 (3)), .c (.int .i64 (3)), .c (.int .i64 (z)), .t (.rows m), .c (.int .i64 (3)), .c (.int .i64 (3)), .c (.int .i64 (z)), .t (.rows (swG 3 3 m))]), (27, .c (.int .i64 ((0 : Nat)))), (30, .own 1), (31, .c (.int .i64 (6))), (32, .c (.int .i64 (j))), (36, .own 1), (37, .c (.int .i64 (6))), (38, .c (.int .i64 (k))), (46, .t (.rows (playsL 6))), (47, .c (.int .i64 ((playsL 6).length))), (48, .c (.int .i64 (u.1)))], [(0, .cells 26 [.c (.int .i64 (3)), .c (.int .i64 (3)), .c (.int .i64 (z)), .t (.rows m)]), (1, .rows 38 3 true ords), (2, .cells 26 [.c (.int .i64 (3)), .c (.int .i64 (3)), .c (.int .i64 (z)), .t (.rows (stt m 0))]), (3, .cells 26 [.c (.int .i64 (3)), .c (.int .i64 (3)), .c (.int .i64 (z)), .t (.rows (agG 3 (stt m 0) (ords.getD j []) (ords.getD k [])))])], 4⟩ : St)) (fun u => u.1 ≤ 64 ∧ TTo m 0 j k u.1 u.2) (fun u => 64 - u.1) (0, g) ⟨by simp only; omega, k2⟩ (some [(0, .row 0), (1, .row 1), (2, .row 2), (3, .row 4)]) (by (refine ⟨rfl, rfl, ?_, ?_⟩ <;> ((repeat' (first | exact trivial | exact rfl | refine And.intro ?_ ?_)) <;> (try ((conv => whnf); first | refine vint ?_ | refine vboo ?_ | refine rint ?_ | refine rrow ?_ | skip)) <;> (try first | omega | (simp; done) | ((repeat rw [flts_closed _ (by assumption)]); exact vws_closed _ (by assumption)))))) (fun u hu => ?_)
            obtain ⟨u, g⟩ := u
            obtain ⟨u1, u2⟩ := hu
            simp only at u1 u2
            dsimp only
            refine ⟨fun h4 => ?_, fun h4 => ?_⟩
            · have h4 : u < (playsL 6).length := ltT h4
              have h4' : u < 64 := by omega
              have hfl := fl_at h4'
              have rf : R9 (flG 3 3 (agG 3 (stt m 0) (ords.getD j []) (ords.getD k [])) ((playsL 6).getD u [])) := ra.fl _
              have gb := u2.bd
              conv => whnf
              refine ⟨u, rfl, h4, ?_⟩
              conv => whnf
              refine ACall.use (flipped_spec 3 3 (by omega) (by omega) z _ ra.len ra.four ((playsL 6).getD u []) hfl.1 hfl.2) ?_
              conv => whnf
              refine ACall.use (triple_spec z _ rf) ?_
              conv => whnf
              rw [nat_wrap (by omega)]
              refine ⟨(u + 1, if tvI m 0 j k u > g then tvI m 0 j k u else g), some [(0, .row 0), (1, .row 1), (2, .row 2), (3, .row 3)], ?_, ⟨by simp only; omega, u2.nextU h9 (by omega) h2 h3 h4' rfl⟩, by simp only; omega⟩
              (refine ⟨rfl, rfl, ?_, ?_⟩ <;> ((repeat' (first | exact trivial | exact rfl | refine And.intro ?_ ?_)) <;> (try ((conv => whnf); first | refine vint ?_ | refine vboo ?_ | refine rint ?_ | refine rrow ?_ | skip)) <;> (try first | omega | (simp; done) | ((repeat rw [flts_closed _ (by assumption)]); exact vws_closed _ (by assumption)))))
            · have h4 : ¬ u < (playsL 6).length := ltF h4
              obtain rfl : u = 64 := by omega
              conv => whnf
              rw [nat_wrap (by omega)]
              exact ⟨(k + 1, g), some [(0, .row 0), (1, .row 1), (2, .row 2)], (by (refine ⟨rfl, rfl, ?_, ?_⟩ <;> ((repeat' (first | exact trivial | exact rfl | refine And.intro ?_ ?_)) <;> (try ((conv => whnf); first | refine vint ?_ | refine vboo ?_ | refine rint ?_ | refine rrow ?_ | skip)) <;> (try first | omega | (simp; done) | ((repeat rw [flts_closed _ (by assumption)]); exact vws_closed _ (by assumption)))))), ⟨by simp only; omega, u2.nextJ⟩, by simp only; omega⟩
          · have h3 : ¬ k < 6 := by have := of_decide_eq_false h3; omega
            obtain rfl : k = 6 := by omega
            conv => whnf
            rw [nat_wrap (by omega)]
            exact ⟨(j + 1, g), none, (by refine ⟨rfl, rfl, ?_, ?_⟩ <;> ((repeat' (first | exact trivial | exact rfl | refine And.intro ?_ ?_)) <;> (try ((conv => whnf); first | refine vint ?_ | refine vboo ?_ | refine rint ?_ | refine rrow ?_ | skip)) <;> (try first | omega | (simp; done) | ((repeat rw [flts_closed _ (by assumption)]); exact vws_closed _ (by assumption))))), ⟨by simp only; omega, k2.nextI⟩, by simp only; omega⟩
        · have h2 : ¬ j < 6 := by have := of_decide_eq_false h2; omega
          obtain rfl : j = 6 := by omega
          conv => whnf
          exact ⟨(0 + 1, g), some [(0, .row 0), (1, .row 1)], (by (refine ⟨rfl, rfl, ?_, ?_⟩ <;> ((repeat' (first | exact trivial | exact rfl | refine And.intro ?_ ?_)) <;> (try ((conv => whnf); first | refine vint ?_ | refine vboo ?_ | refine rint ?_ | refine rrow ?_ | skip)) <;> (try first | omega | (simp; done) | ((repeat rw [flts_closed _ (by assumption)]); exact vws_closed _ (by assumption)))))), ⟨by simp only; omega, j2.nextS⟩, by simp only; omega⟩
      · conv => whnf
        refine ⟨1, rfl, by omega, ?_⟩
        conv => whnf
        have r9 : R9 (stt m 1) := h9.st 1
        refine aloopI tyOk mx (fun j : Nat × Int => (⟨63, [(1, .ptr 0 0), (2, .c (.int .i64 (0))), (3, .own 1), (4, .c (.int .i64 (j.2))), (6, .ptr 2 0), (26, .ag [.c (.int .i64 (3)), .c (.int .i64 (3)), .c (.int .i64 (z)), .t (.rows m), .c (.int .i64 (3)), .c (.int .i64 (3)), .c (.int .i64 (z)), .t (.rows (swG 3 3 m))]), (27, .c (.int .i64 ((1 : Nat)))), (30, .own 1), (31, .c (.int .i64 (6))), (32, .c (.int .i64 (j.1)))], [(0, .cells 26 [.c (.int .i64 (3)), .c (.int .i64 (3)), .c (.int .i64 (z)), .t (.rows m)]), (1, .rows 38 3 true ords), (2, .cells 26 [.c (.int .i64 (3)), .c (.int .i64 (3)), .c (.int .i64 (z)), .t (.rows (stt m 1))])], 3⟩ : St)) (fun j => j.1 ≤ 6 ∧ TTo m 1 j.1 0 0 j.2) (fun j => 6 - j.1) (0, g) ⟨by simp only; omega, i2⟩ none (by refine ⟨rfl, rfl, ?_, ?_⟩ <;> ((repeat' (first | exact trivial | exact rfl | refine And.intro ?_ ?_)) <;> (try ((conv => whnf); first | refine vint ?_ | refine vboo ?_ | refine rint ?_ | refine rrow ?_ | skip)) <;> (try first | omega | (simp; done) | ((repeat rw [flts_closed _ (by assumption)]); exact vws_closed _ (by assumption))))) (fun j hj => ?_)
        obtain ⟨j, g⟩ := j
        obtain ⟨j1, j2⟩ := hj
        simp only at j1 j2
        dsimp only
        refine ⟨fun h2 => ?_, fun h2 => ?_⟩
        · have h2 : j < 6 := by have := of_decide_eq_true h2; omega
          have of1 := ords_ok (ords_at h2)
          conv => whnf
          refine ⟨j, rfl, h2, ?_⟩
          conv => whnf
          refine aloopI tyOk mx (fun k : Nat × Int => (⟨63, [(1, .ptr 0 0), (2, .c (.int .i64 (0))), (3, .own 1), (4, .c (.int .i64 (k.2))), (6, .ptr 2 0), (8, .sub 1 j), (26, .ag [.c (.int .i64 (3)), .c (.int .i64 (3)), .c (.int .i64 (z)), .t (.rows m), .c (.int .i64 (3)), .c (.int .i64 (3)), .c (.int .i64 (z)), .t (.rows (swG 3 3 m))]), (27, .c (.int .i64 ((1 : Nat)))), (30, .own 1), (31, .c (.int .i64 (6))), (32, .c (.int .i64 (j))), (36, .own 1), (37, .c (.int .i64 (6))), (38, .c (.int .i64 (k.1)))], [(0, .cells 26 [.c (.int .i64 (3)), .c (.int .i64 (3)), .c (.int .i64 (z)), .t (.rows m)]), (1, .rows 38 3 true ords), (2, .cells 26 [.c (.int .i64 (3)), .c (.int .i64 (3)), .c (.int .i64 (z)), .t (.rows (stt m 1))])], 3⟩ : St)) (fun k => k.1 ≤ 6 ∧ TTo m 1 j k.1 0 k.2) (fun k => 6 - k.1) (0, g) ⟨by simp only; omega, j2⟩ none (by refine ⟨rfl, rfl, ?_, ?_⟩ <;> ((repeat' (first | exact trivial | exact rfl | refine And.intro ?_ ?_)) <;> (try ((conv => whnf); first | refine vint ?_ | refine vboo ?_ | refine rint ?_ | refine rrow ?_ | skip)) <;> (try first | omega | (simp; done) | ((repeat rw [flts_closed _ (by assumption)]); exact vws_closed _ (by assumption))))) (fun k hk => ?_)
          obtain ⟨k, g⟩ := k
          obtain ⟨k1, k2⟩ := hk
          simp only at k1 k2
          dsimp only
          refine ⟨fun h3 => ?_, fun h3 => ?_⟩
          · have h3 : k < 6 := by have := of_decide_eq_true h3; omega
            have of2 := ords_ok (ords_at h3)
            have ra : R9 (agG 3 (stt m 1) (ords.getD j []) (ords.getD k [])) := r9.ag of1.1 of2.1
            conv => whnf
            refine ⟨k, rfl, h3, ?_⟩
            conv => whnf
            refine ACall.use (again_spec 3 3 (by omega) (by omega) z (stt m 1) r9.len r9.four (ords.getD j []) (ords.getD k []) (by omega) (by omega) of1.2 of2.2) ?_
            rw [of1.1, of2.1]
            conv => whnf
            refine ACall.use (FSpec.toldL (plays_spec 3 3 (by omega)) (x' := .t (.rows (playsL 6))) ⟨rfl, rfl⟩) ?_
            conv => whnf
            refine aloopI tyOk mx (fun u : Nat × Int => (⟨63, [(1, .ptr 0 0), (2, .c (.int .i64 (0))), (3, .own 1), (4, .c (.int .i64 (u.2))), (6, .ptr 2 0), (8, .sub 1 j), (11, .ptr 3 0), (26, .ag [.c (.int .i64 (3)), .c (.int .i64 (3)), .c (.int .i64 (z)), .t (.rows m), .c (.int .i64 (3)), .c (.int .i64 (3)), .c (.int .i64 (z)), .t (.rows (swG 3 3 m))]), (27, .c (.int .i64 ((1 : Nat)))), (30, .own 1), (31, .c (.int .i64 (6))), (32, .c (.int .i64 (j))), (36, .own 1), (37, .c (.int .i64 (6))), (38, .c (.int .i64 (k))), (46, .t (.rows (playsL 6))), (47, .c (.int .i64 ((playsL 6).length))), (48, .c (.int .i64 (u.1)))], [(0, .cells 26 [.c (.int .i64 (3)), .c (.int .i64 (3)), .c (.int .i64 (z)), .t (.rows m)]), (1, .rows 38 3 true ords), (2, .cells 26 [.c (.int .i64 (3)), .c (.int .i64 (3)), .c (.int .i64 (z)), .t (.rows (stt m 1))]), (3, .cells 26 [.c (.int .i64 (3)), .c (.int .i64 (3)), .c (.int .i64 (z)), .t (.rows (agG 3 (stt m 1) (ords.getD j []) (ords.getD k [])))])], 4⟩ : St)) (fun u => u.1 ≤ 64 ∧ TTo m 1 j k u.1 u.2) (fun u => 64 - u.1) (0, g) ⟨by simp only; omega, k2⟩ (some [(0, .row 0), (1, .row 1), (2, .row 2), (3, .row 4)]) (by (refine ⟨rfl, rfl, ?_, ?_⟩ <;> ((repeat' (first | exact trivial | exact rfl | refine And.intro ?_ ?_)) <;> (try ((conv => whnf); first | refine vint ?_ | refine vboo ?_ | refine rint ?_ | refine rrow ?_ | skip)) <;> (try first | omega | (simp; done) | ((repeat rw [flts_closed _ (by assumption)]); exact vws_closed _ (by assumption)))))) (fun u hu => ?_)
            obtain ⟨u, g⟩ := u
            obtain ⟨u1, u2⟩ := hu
            simp only at u1 u2
            dsimp only
            refine ⟨fun h4 => ?_, fun h4 => ?_⟩
            · have h4 : u < (playsL 6).length := ltT h4
              have h4' : u < 64 := by omega
              have hfl := fl_at h4'
              have rf : R9 (flG 3 3 (agG 3 (stt m 1) (ords.getD j []) (ords.getD k [])) ((playsL 6).getD u [])) := ra.fl _
              have gb := u2.bd
              conv => whnf
              refine ⟨u, rfl, h4, ?_⟩
              conv => whnf
              refine ACall.use (flipped_spec 3 3 (by omega) (by omega) z _ ra.len ra.four ((playsL 6).getD u []) hfl.1 hfl.2) ?_
              conv => whnf
              refine ACall.use (triple_spec z _ rf) ?_
              conv => whnf
              rw [nat_wrap (by omega)]
              refine ⟨(u + 1, if tvI m 1 j k u > g then tvI m 1 j k u else g), some [(0, .row 0), (1, .row 1), (2, .row 2), (3, .row 3)], ?_, ⟨by simp only; omega, u2.nextU h9 (by omega) h2 h3 h4' rfl⟩, by simp only; omega⟩
              (refine ⟨rfl, rfl, ?_, ?_⟩ <;> ((repeat' (first | exact trivial | exact rfl | refine And.intro ?_ ?_)) <;> (try ((conv => whnf); first | refine vint ?_ | refine vboo ?_ | refine rint ?_ | refine rrow ?_ | skip)) <;> (try first | omega | (simp; done) | ((repeat rw [flts_closed _ (by assumption)]); exact vws_closed _ (by assumption)))))
            · have h4 : ¬ u < (playsL 6).length := ltF h4
              obtain rfl : u = 64 := by omega
              conv => whnf
              rw [nat_wrap (by omega)]
              exact ⟨(k + 1, g), some [(0, .row 0), (1, .row 1), (2, .row 2)], (by (refine ⟨rfl, rfl, ?_, ?_⟩ <;> ((repeat' (first | exact trivial | exact rfl | refine And.intro ?_ ?_)) <;> (try ((conv => whnf); first | refine vint ?_ | refine vboo ?_ | refine rint ?_ | refine rrow ?_ | skip)) <;> (try first | omega | (simp; done) | ((repeat rw [flts_closed _ (by assumption)]); exact vws_closed _ (by assumption)))))), ⟨by simp only; omega, u2.nextJ⟩, by simp only; omega⟩
          · have h3 : ¬ k < 6 := by have := of_decide_eq_false h3; omega
            obtain rfl : k = 6 := by omega
            conv => whnf
            rw [nat_wrap (by omega)]
            exact ⟨(j + 1, g), none, (by refine ⟨rfl, rfl, ?_, ?_⟩ <;> ((repeat' (first | exact trivial | exact rfl | refine And.intro ?_ ?_)) <;> (try ((conv => whnf); first | refine vint ?_ | refine vboo ?_ | refine rint ?_ | refine rrow ?_ | skip)) <;> (try first | omega | (simp; done) | ((repeat rw [flts_closed _ (by assumption)]); exact vws_closed _ (by assumption))))), ⟨by simp only; omega, k2.nextI⟩, by simp only; omega⟩
        · have h2 : ¬ j < 6 := by have := of_decide_eq_false h2; omega
          obtain rfl : j = 6 := by omega
          conv => whnf
          exact ⟨(1 + 1, g), some [(0, .row 0), (1, .row 1)], (by (refine ⟨rfl, rfl, ?_, ?_⟩ <;> ((repeat' (first | exact trivial | exact rfl | refine And.intro ?_ ?_)) <;> (try ((conv => whnf); first | refine vint ?_ | refine vboo ?_ | refine rint ?_ | refine rrow ?_ | skip)) <;> (try first | omega | (simp; done) | ((repeat rw [flts_closed _ (by assumption)]); exact vws_closed _ (by assumption)))))), ⟨by simp only; omega, j2.nextS⟩, by simp only; omega⟩
    · have h : ¬ i < 2 := by have := of_decide_eq_false h; omega
      obtain rfl : i = 2 := by omega
      conv => whnf
      exact ⟨rfl, g, i2.fin, rfl⟩

theorem isTriple_spec (nx ny : Nat) (z : Int) (m : List (List Int)) (hg : goodB nx ny z m = true) (km : SzM m) : FSpec Tryz.prog 27 [.ag [.c (.int .i64 (nx)), .c (.int .i64 (ny)), .c (.int .i64 (z)), .t (.rows m)]] (ex (.c (.bool (quietF nx ny m && (decide ((nx : Int) = 3) && decide ((ny : Int) = 3))))) []) := by
  have eq : quietB nx ny z m = quietF nx ny m := by rw [quietB, hg, Bool.true_and, Int.toNat_natCast, Int.toNat_natCast]
  refine fspec tyOk mx Tryz.func27 rfl (by kernel_rfl) rfl ?_
  conv => whnf
  refine ACall.use (isQuiet_spec nx ny z m km) ?_
  rw [eq]
  conv => whnf
  refine ⟨fun h => ?_, fun h => ?_⟩
  · conv => whnf
    refine ⟨fun h2 => ?_, fun h2 => ?_⟩
    · conv => whnf
      refine ⟨?_, rfl⟩
      have h2 : (nx : Int) = 3 := by simpa using h2
      rw [h, decide_eq_true h2]
      rfl
    · have h2 : ¬ (nx : Int) = 3 := by simpa using h2
      conv => whnf
      refine ⟨?_, rfl⟩
      rw [h, decide_eq_false h2]
      rfl
  · (repeat (conv => whnf); (first | refine ⟨fun h => absurd h (by decide), fun _ => ?_⟩ | refine ⟨fun _ => ?_, fun h => absurd h (by decide)⟩)); conv => whnf
    refine ⟨?_, rfl⟩
    rw [h]; rfl
theorem isLocal_spec (nx ny : Nat) (z : Int) (m : List (List Int)) (hg : goodB nx ny z m = true) (km : SzM m) : FSpec Tryz.prog 23 [.ag [.c (.int .i64 (nx)), .c (.int .i64 (ny)), .c (.int .i64 (z)), .t (.rows m)]] (ex (.c (.bool (locB nx ny z m))) []) := by
  have hg' := hg
  obtain ⟨a, b, ea, eb, g1, g2, g3, g4, g5, g6, g7, g8, g9⟩ := goodB_spec hg'
  obtain rfl : nx = a := by omega
  obtain rfl : ny = b := by omega
  have h4 : ∀ r, r ∈ m → r.length = 4 := fun r hr => (g9 r hr).1
  have hB : AgB m := ag_bd g6 g9
  have eq : quietB nx ny z m = quietF nx ny m := by rw [quietB, hg, Bool.true_and, Int.toNat_natCast, Int.toNat_natCast]
  have e2 : IntKind.i64.wrap (2 * z) = 2 * z := w64 (by omega) (by omega)
  refine fspec tyOk mx Tryz.func23 rfl (by kernel_rfl) rfl ?_
  conv => whnf
  refine ACall.use' (greatest_spec nx ny z m g2 g4 g7 h4 hB) ?_
  rintro v h ⟨rfl, g, p0, p1, q0, q1, kk, t, hgs, hg4, rfl⟩
  have hle := hgs.le (z := 2 * z) (by omega)
  conv => whnf
  refine ACall.use (isQuiet_spec nx ny z m km) ?_
  rw [eq]
  conv => whnf
  refine ⟨fun h => ?_, fun h => ?_⟩
  · conv => whnf
    rw [e2]
    refine ⟨fun h2 => ?_, fun h2 => ?_⟩
    · have h2 : g ≤ 2 * z := of_decide_eq_true h2
      conv => whnf
      refine ACall.use (isTriple_spec nx ny z m hg km) ?_
      rw [h, Bool.true_and]
      conv => whnf
      refine ⟨fun h3 => ?_, fun h3 => ?_⟩
      · have h3 : (nx : Int) = 3 ∧ (ny : Int) = 3 := by simpa using h3
        obtain rfl : nx = 3 := by omega
        obtain rfl : ny = 3 := by omega
        have h9 : R9 m := ⟨by omega, h4, Bd.of fun r hr v hv => by have := (g9 r hr).2.1 v hv; omega⟩
        conv => whnf
        refine ACall.use' (greatestTriple_spec z m h9) ?_
        rintro v h ⟨rfl, gt, hgt, rfl⟩
        have hl2 := hgt.le (z := 0)
        conv => whnf
        refine ⟨?_, rfl⟩
        rw [locB_of (b := decide (gt ≤ 0))]
        rw [decide_eq_true_iff]
        exact ⟨fun hz => ⟨h, hle.1 h2, fun _ _ => hl2.1 hz⟩, fun hl => hl2.2 (hl.trip rfl rfl)⟩
      · have h3 : ¬ (nx : Int) = 3 ∨ ¬ (ny : Int) = 3 := by simpa using h3
        have h3 : ¬ ((nx : Int) = 3 ∧ (ny : Int) = 3) := by omega
        conv => whnf
        refine ⟨?_, rfl⟩
        rw [locB_of (b := true)]
        exact ⟨fun _ => ⟨h, hle.1 h2, fun ex ey => absurd ⟨by omega, by omega⟩ h3⟩, fun _ => rfl⟩
    · have h2 : ¬ g ≤ 2 * z := of_decide_eq_false h2
      (repeat (conv => whnf); (first | refine ⟨fun h => absurd h (by decide), fun _ => ?_⟩ | refine ⟨fun _ => ?_, fun h => absurd h (by decide)⟩)); conv => whnf
      refine ⟨?_, rfl⟩
      rw [locB_of (b := false)]
      exact ⟨fun hf => (by cases hf), fun hl => absurd (hle.2 hl.sums) h2⟩
  · (repeat (conv => whnf); (first | refine ⟨fun h => absurd h (by decide), fun _ => ?_⟩ | refine ⟨fun _ => ?_, fun h => absurd h (by decide)⟩)); conv => whnf
    refine ⟨?_, rfl⟩
    rw [locB_of (b := false)]
    exact ⟨fun hf => (by cases hf), fun hl => by rw [hl.quiet] at h; cases h⟩
noncomputable def lcV (x y z : Int) (m : List (List Int)) : Bool := goodB x y z m && locB x.toNat y.toNat z m
theorem IsLocal_i (x y z : Int) (m : List (List Int)) (km : SzM m) : FSpec Tryz.prog 6 [.ag [.c (.int .i64 (x)), .c (.int .i64 (y)), .c (.int .i64 (z)), .t (.rows m)]] (ex (.tu [.c (.bool (lcV x y z m)), .c (.bool (goodB x y z m))]) []) := by
  refine fspec tyOk mx Tryz.func6 rfl (by kernel_rfl) rfl ?_
  conv => whnf
  refine ACall.use (IsBox_spec x y z m km) ?_
  conv => whnf
  refine ⟨fun h => ?_, fun h => ?_⟩
  · have h : goodB x y z m = false := by simpa using h
    conv => whnf
    exact ⟨by rw [lcV, h]; rfl, rfl⟩
  · have h : goodB x y z m = true := by simpa using h
    have h' := h
    obtain ⟨nx, ny, rfl, rfl, _⟩ := goodB_spec h'
    conv => whnf
    refine ACall.use (isLocal_spec nx ny z m h km) ?_
    conv => whnf
    exact ⟨by rw [lcV, h, Bool.true_and, Int.toNat_natCast, Int.toNat_natCast], rfl⟩
end Go.Proofs.YtkjdplglenjijaaGreat.L
/- Sums of four agreements: reference. -/
namespace Go.Proofs.YtkjdplglenjijaaGreat.L
open Go.Aw
set_option maxRecDepth 100000
set_option maxHeartbeats 4000000
theorem l3Sum_spec (nx ny a b c d k : Nat) (z : Int) (m : List (List Int)) (hx : nx ≤ 3) (hy : ny ≤ 3) (hab : a < b) (hbx : b < nx) (hcd : c < d) (hdy : d < ny) (hk : k ≤ 4) (hm : m.length = nx * ny) (h4 : ∀ r, r ∈ m → r.length = 4) (hB : AgB m) :
    FSpec Tryz.prog 93 [.ag [.c (.int .i64 (nx)), .c (.int .i64 (ny)), .c (.int .i64 (z)), .t (.rows m)], .ag [.c (.int .i64 (a)), .c (.int .i64 (b))], .ag [.c (.int .i64 (c)), .c (.int .i64 (d))], .c (.int .i64 (k))] (ex (.c (.int .i64 (sum4V ny m a b c d k))) []) := by
  have hn : nx * ny ≤ 3 * 3 := Nat.mul_le_mul hx hy
  have i0 := ix_lt (show a < nx by omega) (show c < ny by omega)
  have i1 := ix_lt (show a < nx by omega) hdy
  have i2 := ix_lt hbx (show c < ny by omega)
  have i3 := ix_lt hbx hdy
  have s0 := sgn_bd hB k 0 (a * ny + c)
  have s1 := sgn_bd hB k 1 (a * ny + d)
  have s2 := sgn_bd hB k 2 (b * ny + c)
  have s3 := sgn_bd hB k 3 (b * ny + d)
  have e4 : sum4V ny m a b c d k = sgn k 0 (agAt m (a * ny + c)) + sgn k 1 (agAt m (a * ny + d)) + sgn k 2 (agAt m (b * ny + c)) + sgn k 3 (agAt m (b * ny + d)) := rfl
  refine fspec tyOk mx Tryz.func93 rfl (by kernel_rfl) rfl ?_
  conv => whnf
  refine aloopI tyOk mx (fun i : Nat => (⟨36, [(3, .c (.int .i64 (k))), (4, .ptr 0 0), (5, .ptr 1 0), (6, .ptr 2 0), (9, .c (.int .i64 (sumT ny m a b c d k i))), (10, .c (.int .i64 (i)))], [(0, .cells 26 [.c (.int .i64 (nx)), .c (.int .i64 (ny)), .c (.int .i64 (z)), .t (.rows m)]), (1, .cells 49 [.c (.int .i64 (a)), .c (.int .i64 (b))]), (2, .cells 49 [.c (.int .i64 (c)), .c (.int .i64 (d))])], 3⟩ : St)) (fun i => i ≤ 4) (fun i => 4 - i) 0 (by omega) none (by refine ⟨rfl, rfl, ?_, ?_⟩ <;> ((repeat' (first | exact trivial | exact rfl | refine And.intro ?_ ?_)) <;> (try ((conv => whnf); first | refine vint ?_ | refine vboo ?_ | refine rint ?_ | refine rrow ?_ | skip)) <;> (try first | omega | (simp; done) | ((repeat rw [flts_closed _ (by assumption)]); exact vws_closed _ (by assumption))))) (fun i hi => ?_)
  refine ⟨fun h => ?_, fun h => ?_⟩
  · have h : i < 4 := by have := of_decide_eq_true h; omega
    have h4' : i = 0 ∨ i = 1 ∨ i = 2 ∨ i = 3 := by omega
    rcases h4' with rfl | rfl | rfl | rfl
    · have r4 := h4 _ (getD_mem (d := []) (show a * ny + c < m.length by omega))
      have bA := hB (a * ny + c)
      conv => whnf
      refine ADraw.plan tyOk mx (.q 0 (.q 1 (.q 2 (.q 3 (.q 4 (.q 5 (.q 6 (.q 7 (.q 8 (.last 9 (.last 10 (.q 11 (.done)))))))))))) : Plan) (by kernel_rfl) ?_
      conv => whnf
      refine ⟨by decide, ?_⟩
      conv => whnf
      refine ⟨0, rfl, by omega, by simp, ?_⟩
      conv => whnf
      refine ⟨by decide, ?_⟩
      conv => whnf
      refine ⟨0, rfl, by omega, by simp, ?_⟩
      conv => whnf
      refine ACall.useR (l2Row_spec nx ny a c z m (by omega) (by omega)) ?_
      conv => whnf
      refine ACall.useR (l2Agree_spec _ r4) ?_
      conv => whnf
      refine ⟨fun h2 => ?_, fun h2 => ?_⟩
      · have h2 : 0 = k := by have := eq_of_beq h2; omega
        have e : IntKind.i64.wrap (sumT ny m a b c d k 0 + IntKind.i64.wrap (0 - agr (m.getD (a * ny + c) []))) = sumT ny m a b c d k 1 := by
          rw [show agr (m.getD (a * ny + c) []) = agAt m (a * ny + c) from rfl, w64 (n := 0 - agAt m (a * ny + c)) (by omega) (by omega), show sumT ny m a b c d k 0 + (0 - agAt m (a * ny + c)) = sumT ny m a b c d k 0 - agAt m (a * ny + c) by omega, sgn_sub h2]
          simp only [sumT, sum4V]
          rw [w64 (by omega) (by omega)]; try omega
        conv => whnf
        rw [e]
        exact ⟨1, none, (by refine ⟨rfl, rfl, ?_, ?_⟩ <;> ((repeat' (first | exact trivial | exact rfl | refine And.intro ?_ ?_)) <;> (try ((conv => whnf); first | refine vint ?_ | refine vboo ?_ | refine rint ?_ | refine rrow ?_ | skip)) <;> (try first | omega | (simp; done) | ((repeat rw [flts_closed _ (by assumption)]); exact vws_closed _ (by assumption))))), by omega, by omega⟩
      · have h2 : ¬ 0 = k := fun e => by rw [← e] at h2; exact absurd h2 (by decide)
        have e : IntKind.i64.wrap (sumT ny m a b c d k 0 + agr (m.getD (a * ny + c) [])) = sumT ny m a b c d k 1 := by
          rw [show agr (m.getD (a * ny + c) []) = agAt m (a * ny + c) from rfl, sgn_add h2]
          simp only [sumT, sum4V]
          rw [w64 (by omega) (by omega)]; try omega
        conv => whnf
        rw [e]
        exact ⟨1, none, (by refine ⟨rfl, rfl, ?_, ?_⟩ <;> ((repeat' (first | exact trivial | exact rfl | refine And.intro ?_ ?_)) <;> (try ((conv => whnf); first | refine vint ?_ | refine vboo ?_ | refine rint ?_ | refine rrow ?_ | skip)) <;> (try first | omega | (simp; done) | ((repeat rw [flts_closed _ (by assumption)]); exact vws_closed _ (by assumption))))), by omega, by omega⟩
    · have r4 := h4 _ (getD_mem (d := []) (show a * ny + d < m.length by omega))
      have bA := hB (a * ny + d)
      conv => whnf
      refine ADraw.plan tyOk mx (.q 0 (.q 1 (.q 2 (.q 3 (.q 4 (.q 5 (.q 6 (.q 7 (.q 8 (.last 9 (.last 10 (.q 11 (.done)))))))))))) : Plan) (by kernel_rfl) ?_
      conv => whnf
      refine ⟨by decide, ?_⟩
      conv => whnf
      refine ⟨0, rfl, by omega, by simp, ?_⟩
      conv => whnf
      refine ⟨by decide, ?_⟩
      conv => whnf
      refine ⟨1, rfl, by omega, by simp, ?_⟩
      conv => whnf
      refine ACall.useR (l2Row_spec nx ny a d z m (by omega) (by omega)) ?_
      conv => whnf
      refine ACall.useR (l2Agree_spec _ r4) ?_
      conv => whnf
      refine ⟨fun h2 => ?_, fun h2 => ?_⟩
      · have h2 : 1 = k := by have := eq_of_beq h2; omega
        have e : IntKind.i64.wrap (sumT ny m a b c d k 1 + IntKind.i64.wrap (0 - agr (m.getD (a * ny + d) []))) = sumT ny m a b c d k 2 := by
          rw [show agr (m.getD (a * ny + d) []) = agAt m (a * ny + d) from rfl, w64 (n := 0 - agAt m (a * ny + d)) (by omega) (by omega), show sumT ny m a b c d k 1 + (0 - agAt m (a * ny + d)) = sumT ny m a b c d k 1 - agAt m (a * ny + d) by omega, sgn_sub h2]
          simp only [sumT, sum4V]
          rw [w64 (by omega) (by omega)]; try omega
        conv => whnf
        rw [e]
        exact ⟨2, none, (by refine ⟨rfl, rfl, ?_, ?_⟩ <;> ((repeat' (first | exact trivial | exact rfl | refine And.intro ?_ ?_)) <;> (try ((conv => whnf); first | refine vint ?_ | refine vboo ?_ | refine rint ?_ | refine rrow ?_ | skip)) <;> (try first | omega | (simp; done) | ((repeat rw [flts_closed _ (by assumption)]); exact vws_closed _ (by assumption))))), by omega, by omega⟩
      · have h2 : ¬ 1 = k := fun e => by rw [← e] at h2; exact absurd h2 (by decide)
        have e : IntKind.i64.wrap (sumT ny m a b c d k 1 + agr (m.getD (a * ny + d) [])) = sumT ny m a b c d k 2 := by
          rw [show agr (m.getD (a * ny + d) []) = agAt m (a * ny + d) from rfl, sgn_add h2]
          simp only [sumT, sum4V]
          rw [w64 (by omega) (by omega)]; try omega
        conv => whnf
        rw [e]
        exact ⟨2, none, (by refine ⟨rfl, rfl, ?_, ?_⟩ <;> ((repeat' (first | exact trivial | exact rfl | refine And.intro ?_ ?_)) <;> (try ((conv => whnf); first | refine vint ?_ | refine vboo ?_ | refine rint ?_ | refine rrow ?_ | skip)) <;> (try first | omega | (simp; done) | ((repeat rw [flts_closed _ (by assumption)]); exact vws_closed _ (by assumption))))), by omega, by omega⟩
    · have r4 := h4 _ (getD_mem (d := []) (show b * ny + c < m.length by omega))
      have bA := hB (b * ny + c)
      conv => whnf
      refine ADraw.plan tyOk mx (.q 0 (.q 1 (.q 2 (.q 3 (.q 4 (.q 5 (.q 6 (.q 7 (.q 8 (.last 9 (.last 10 (.q 11 (.done)))))))))))) : Plan) (by kernel_rfl) ?_
      conv => whnf
      refine ⟨by decide, ?_⟩
      conv => whnf
      refine ⟨1, rfl, by omega, by simp, ?_⟩
      conv => whnf
      refine ⟨by decide, ?_⟩
      conv => whnf
      refine ⟨0, rfl, by omega, by simp, ?_⟩
      conv => whnf
      refine ACall.useR (l2Row_spec nx ny b c z m (by omega) (by omega)) ?_
      conv => whnf
      refine ACall.useR (l2Agree_spec _ r4) ?_
      conv => whnf
      refine ⟨fun h2 => ?_, fun h2 => ?_⟩
      · have h2 : 2 = k := by have := eq_of_beq h2; omega
        have e : IntKind.i64.wrap (sumT ny m a b c d k 2 + IntKind.i64.wrap (0 - agr (m.getD (b * ny + c) []))) = sumT ny m a b c d k 3 := by
          rw [show agr (m.getD (b * ny + c) []) = agAt m (b * ny + c) from rfl, w64 (n := 0 - agAt m (b * ny + c)) (by omega) (by omega), show sumT ny m a b c d k 2 + (0 - agAt m (b * ny + c)) = sumT ny m a b c d k 2 - agAt m (b * ny + c) by omega, sgn_sub h2]
          simp only [sumT, sum4V]
          rw [w64 (by omega) (by omega)]; try omega
        conv => whnf
        rw [e]
        exact ⟨3, none, (by refine ⟨rfl, rfl, ?_, ?_⟩ <;> ((repeat' (first | exact trivial | exact rfl | refine And.intro ?_ ?_)) <;> (try ((conv => whnf); first | refine vint ?_ | refine vboo ?_ | refine rint ?_ | refine rrow ?_ | skip)) <;> (try first | omega | (simp; done) | ((repeat rw [flts_closed _ (by assumption)]); exact vws_closed _ (by assumption))))), by omega, by omega⟩
      · have h2 : ¬ 2 = k := fun e => by rw [← e] at h2; exact absurd h2 (by decide)
        have e : IntKind.i64.wrap (sumT ny m a b c d k 2 + agr (m.getD (b * ny + c) [])) = sumT ny m a b c d k 3 := by
          rw [show agr (m.getD (b * ny + c) []) = agAt m (b * ny + c) from rfl, sgn_add h2]
          simp only [sumT, sum4V]
          rw [w64 (by omega) (by omega)]; try omega
        conv => whnf
        rw [e]
        exact ⟨3, none, (by refine ⟨rfl, rfl, ?_, ?_⟩ <;> ((repeat' (first | exact trivial | exact rfl | refine And.intro ?_ ?_)) <;> (try ((conv => whnf); first | refine vint ?_ | refine vboo ?_ | refine rint ?_ | refine rrow ?_ | skip)) <;> (try first | omega | (simp; done) | ((repeat rw [flts_closed _ (by assumption)]); exact vws_closed _ (by assumption))))), by omega, by omega⟩
    · have r4 := h4 _ (getD_mem (d := []) (show b * ny + d < m.length by omega))
      have bA := hB (b * ny + d)
      conv => whnf
      refine ADraw.plan tyOk mx (.q 0 (.q 1 (.q 2 (.q 3 (.q 4 (.q 5 (.q 6 (.q 7 (.q 8 (.last 9 (.last 10 (.q 11 (.done)))))))))))) : Plan) (by kernel_rfl) ?_
      conv => whnf
      refine ⟨by decide, ?_⟩
      conv => whnf
      refine ⟨1, rfl, by omega, by simp, ?_⟩
      conv => whnf
      refine ⟨by decide, ?_⟩
      conv => whnf
      refine ⟨1, rfl, by omega, by simp, ?_⟩
      conv => whnf
      refine ACall.useR (l2Row_spec nx ny b d z m (by omega) (by omega)) ?_
      conv => whnf
      refine ACall.useR (l2Agree_spec _ r4) ?_
      conv => whnf
      refine ⟨fun h2 => ?_, fun h2 => ?_⟩
      · have h2 : 3 = k := by have := eq_of_beq h2; omega
        have e : IntKind.i64.wrap (sumT ny m a b c d k 3 + IntKind.i64.wrap (0 - agr (m.getD (b * ny + d) []))) = sumT ny m a b c d k 4 := by
          rw [show agr (m.getD (b * ny + d) []) = agAt m (b * ny + d) from rfl, w64 (n := 0 - agAt m (b * ny + d)) (by omega) (by omega), show sumT ny m a b c d k 3 + (0 - agAt m (b * ny + d)) = sumT ny m a b c d k 3 - agAt m (b * ny + d) by omega, sgn_sub h2]
          simp only [sumT, sum4V]
          rw [w64 (by omega) (by omega)]; try omega
        conv => whnf
        rw [e]
        exact ⟨4, none, (by refine ⟨rfl, rfl, ?_, ?_⟩ <;> ((repeat' (first | exact trivial | exact rfl | refine And.intro ?_ ?_)) <;> (try ((conv => whnf); first | refine vint ?_ | refine vboo ?_ | refine rint ?_ | refine rrow ?_ | skip)) <;> (try first | omega | (simp; done) | ((repeat rw [flts_closed _ (by assumption)]); exact vws_closed _ (by assumption))))), by omega, by omega⟩
      · have h2 : ¬ 3 = k := fun e => by rw [← e] at h2; exact absurd h2 (by decide)
        have e : IntKind.i64.wrap (sumT ny m a b c d k 3 + agr (m.getD (b * ny + d) [])) = sumT ny m a b c d k 4 := by
          rw [show agr (m.getD (b * ny + d) []) = agAt m (b * ny + d) from rfl, sgn_add h2]
          simp only [sumT, sum4V]
          rw [w64 (by omega) (by omega)]; try omega
        conv => whnf
        rw [e]
        exact ⟨4, none, (by refine ⟨rfl, rfl, ?_, ?_⟩ <;> ((repeat' (first | exact trivial | exact rfl | refine And.intro ?_ ?_)) <;> (try ((conv => whnf); first | refine vint ?_ | refine vboo ?_ | refine rint ?_ | refine rrow ?_ | skip)) <;> (try first | omega | (simp; done) | ((repeat rw [flts_closed _ (by assumption)]); exact vws_closed _ (by assumption))))), by omega, by omega⟩
  · have h : ¬ i < 4 := by have := of_decide_eq_false h; omega
    obtain rfl : i = 4 := by omega
    conv => whnf
    exact ⟨rfl, rfl⟩
end Go.Proofs.YtkjdplglenjijaaGreat.L
/- The greater one of two numbers. -/
namespace Go.Proofs.YtkjdplglenjijaaGreat
open Go.Aw
set_option maxRecDepth 100000
theorem l1MostM_spec (a b : Int) : FSpec Tryz.prog 70 [.c (.int .i64 a), .c (.int .i64 b)] (ex (.c (.int .i64 (max a b))) []) := by
  refine fspec tyOk mx Tryz.func70 rfl (by kernel_rfl) rfl ?_
  conv => whnf
  refine ⟨fun h => ?_, fun h => ?_⟩
  · have h := of_decide_eq_true h
    conv => whnf
    refine ⟨?_, rfl⟩
    rw [Int.max_eq_left (by omega)]
  · have h := of_decide_eq_false h
    conv => whnf
    refine ⟨?_, rfl⟩
    rw [Int.max_eq_right (by omega)]

end Go.Proofs.YtkjdplglenjijaaGreat
/- The greatest sum: reference. -/
namespace Go.Proofs.YtkjdplglenjijaaGreat.L
open Go.Aw
set_option maxRecDepth 100000
set_option maxHeartbeats 4000000
/-- the greatest sum, and something more -/
def gbP (nx ny : Nat) (m : List (List Int)) : AVal → List (Nat × ARow) → Prop := fun v h => h = [] ∧ ∃ (g p0 p1 q0 q1 k : Int) (t : Bool), GSum nx ny m g ∧ g ≤ 4000 ∧ v = .ag [.c (.int .i64 (g)), .c (.int .i64 (p0)), .c (.int .i64 (p1)), .c (.int .i64 (q0)), .c (.int .i64 (q1)), .c (.int .i64 (k)), .c (.bool t)]
theorem l3Greatest_spec (nx ny : Nat) (z : Int) (m : List (List Int)) (hx : nx ≤ 3) (hy : ny ≤ 3) (hm : m.length = nx * ny) (h4 : ∀ r, r ∈ m → r.length = 4) (hB : AgB m) :
    FSpec Tryz.prog 57 [.ag [.c (.int .i64 (nx)), .c (.int .i64 (ny)), .c (.int .i64 (z)), .t (.rows m)]] (gbP nx ny m) := by
  have lx := prs_len hx
  have ly := prs_len hy
  refine fspec tyOk mx Tryz.func57 rfl (by kernel_rfl) rfl ?_
  conv => whnf
  refine ADraw.plan tyOk mx (.q 0 (.q 1 (.q 3 (.q 4 (.last 2 (.last 5 (.q 6 (.q 7 (.done)))))))) : Plan) (by kernel_rfl) ?_
  conv => whnf
  refine ACall.useR (l3Pairs_spec nx (by omega)) ?_
  conv => whnf
  refine ACall.useR (l3Pairs_spec ny (by omega)) ?_
  conv => whnf
  refine aloopI tyOk mx (fun i : Nat × Int × Int × Int × Int × Int × Int × Bool => (⟨69, [(1, .ptr 0 0), (2, .ptr 1 0), (3, .ptr 2 0), (4, .t (.recs 101 (prs nx))), (5, .t (.recs 101 (prs ny))), (6, .c (.int .i64 (i.1)))], [(0, .cells 26 [.c (.int .i64 (nx)), .c (.int .i64 (ny)), .c (.int .i64 (z)), .t (.rows m)]), (1, .cells 70 [.c (.int .i64 (0)), .c (.int .i64 (0)), .c (.int .i64 (0)), .c (.int .i64 (0)), .c (.int .i64 (0)), .c (.int .i64 (0)), .c (.bool false)]), (2, .cells 70 [.c (.int .i64 (i.2.1)), .c (.int .i64 (i.2.2.1)), .c (.int .i64 (i.2.2.2.1)), .c (.int .i64 (i.2.2.2.2.1)), .c (.int .i64 (i.2.2.2.2.2.1)), .c (.int .i64 (i.2.2.2.2.2.2.1)), .c (.bool i.2.2.2.2.2.2.2)])], 3⟩ : St)) (fun i => i.1 ≤ (prs nx).length ∧ GTo nx ny m i.1 0 0 i.2.1 ∧ (i.2.2.2.2.2.2.2 = false → i.2.1 = 0)) (fun i => (prs nx).length - i.1) (0, 0, 0, 0, 0, 0, 0, false) ⟨Nat.zero_le _, GTo.zero nx ny m, fun _ => rfl⟩ none (by refine ⟨rfl, rfl, ?_, ?_⟩ <;> ((repeat' (first | exact trivial | exact rfl | refine And.intro ?_ ?_)) <;> (try ((conv => whnf); first | refine vint ?_ | refine vboo ?_ | refine rint ?_ | refine rrow ?_ | skip)) <;> (try first | omega | (simp; done) | ((repeat rw [flts_closed _ (by assumption)]); exact vws_closed _ (by assumption))))) (fun i hi => ?_)
  obtain ⟨i, g, p0, p1, q0, q1, kk, t⟩ := i
  obtain ⟨i1, i2, i3⟩ := hi
  simp only at i1 i2 i3
  dsimp only
  refine ⟨fun h => ?_, fun h => ?_⟩
  · have h := ltT h
    obtain ⟨ea, eb, x1, x2⟩ := q_at hx h
    conv => whnf
    refine aloopI tyOk mx (fun j : Nat × Int × Int × Int × Int × Int × Int × Bool => (⟨69, [(1, .ptr 0 0), (2, .ptr 1 0), (3, .ptr 2 0), (4, .t (.recs 101 (prs nx))), (5, .t (.recs 101 (prs ny))), (6, .c (.int .i64 (i))), (7, .c (.int .i64 (j.1)))], [(0, .cells 26 [.c (.int .i64 (nx)), .c (.int .i64 (ny)), .c (.int .i64 (z)), .t (.rows m)]), (1, .cells 70 [.c (.int .i64 (0)), .c (.int .i64 (0)), .c (.int .i64 (0)), .c (.int .i64 (0)), .c (.int .i64 (0)), .c (.int .i64 (0)), .c (.bool false)]), (2, .cells 70 [.c (.int .i64 (j.2.1)), .c (.int .i64 (j.2.2.1)), .c (.int .i64 (j.2.2.2.1)), .c (.int .i64 (j.2.2.2.2.1)), .c (.int .i64 (j.2.2.2.2.2.1)), .c (.int .i64 (j.2.2.2.2.2.2.1)), .c (.bool j.2.2.2.2.2.2.2)])], 3⟩ : St)) (fun j => j.1 ≤ (prs ny).length ∧ GTo nx ny m i j.1 0 j.2.1 ∧ (j.2.2.2.2.2.2.2 = false → j.2.1 = 0)) (fun j => (prs ny).length - j.1) (0, g, p0, p1, q0, q1, kk, t) ⟨Nat.zero_le _, i2, i3⟩ none (by refine ⟨rfl, rfl, ?_, ?_⟩ <;> ((repeat' (first | exact trivial | exact rfl | refine And.intro ?_ ?_)) <;> (try ((conv => whnf); first | refine vint ?_ | refine vboo ?_ | refine rint ?_ | refine rrow ?_ | skip)) <;> (try first | omega | (simp; done) | ((repeat rw [flts_closed _ (by assumption)]); exact vws_closed _ (by assumption))))) (fun j hj => ?_)
    obtain ⟨j, g, p0, p1, q0, q1, kk, t⟩ := j
    obtain ⟨j1, j2, j3⟩ := hj
    simp only at j1 j2 j3
    dsimp only
    refine ⟨fun h2 => ?_, fun h2 => ?_⟩
    · have h2 := ltT h2
      obtain ⟨ec, ed, y1, y2⟩ := q_at hy h2
      conv => whnf
      refine aloopI tyOk mx (fun u : Nat × Int × Int × Int × Int × Int × Int × Bool => (⟨69, [(1, .ptr 0 0), (2, .ptr 1 0), (3, .ptr 2 0), (4, .t (.recs 101 (prs nx))), (5, .t (.recs 101 (prs ny))), (6, .c (.int .i64 (i))), (7, .c (.int .i64 (j))), (8, .c (.int .i64 (u.1)))], [(0, .cells 26 [.c (.int .i64 (nx)), .c (.int .i64 (ny)), .c (.int .i64 (z)), .t (.rows m)]), (1, .cells 70 [.c (.int .i64 (0)), .c (.int .i64 (0)), .c (.int .i64 (0)), .c (.int .i64 (0)), .c (.int .i64 (0)), .c (.int .i64 (0)), .c (.bool false)]), (2, .cells 70 [.c (.int .i64 (u.2.1)), .c (.int .i64 (u.2.2.1)), .c (.int .i64 (u.2.2.2.1)), .c (.int .i64 (u.2.2.2.2.1)), .c (.int .i64 (u.2.2.2.2.2.1)), .c (.int .i64 (u.2.2.2.2.2.2.1)), .c (.bool u.2.2.2.2.2.2.2)])], 3⟩ : St)) (fun u => u.1 ≤ 4 ∧ GTo nx ny m i j u.1 u.2.1 ∧ (u.2.2.2.2.2.2.2 = false → u.2.1 = 0)) (fun u => 4 - u.1) (0, g, p0, p1, q0, q1, kk, t) ⟨Nat.zero_le _, j2, j3⟩ none (by refine ⟨rfl, rfl, ?_, ?_⟩ <;> ((repeat' (first | exact trivial | exact rfl | refine And.intro ?_ ?_)) <;> (try ((conv => whnf); first | refine vint ?_ | refine vboo ?_ | refine rint ?_ | refine rrow ?_ | skip)) <;> (try first | omega | (simp; done) | ((repeat rw [flts_closed _ (by assumption)]); exact vws_closed _ (by assumption))))) (fun u hu => ?_)
      obtain ⟨u, g, p0, p1, q0, q1, kk, t⟩ := u
      obtain ⟨u1, u2, u3⟩ := hu
      simp only at u1 u2 u3
      dsimp only
      refine ⟨fun h3 => ?_, fun h3 => ?_⟩
      · have h3 : u < 4 := by have := of_decide_eq_true h3; omega
        have sb := sum4_bd hB ny (qa nx i) (qb nx i) (qa ny j) (qb ny j) u
        have hs := l3Sum_spec nx ny (qa nx i) (qb nx i) (qa ny j) (qb ny j) u z m hx hy x1 x2 y1 y2 (by omega) hm h4 hB
        rw [← ea, ← eb, ← ec, ← ed] at hs
        conv => whnf
        refine ADraw.plan tyOk mx (.q 0 (.q 1 (.q 2 (.q 3 (.q 4 (.q 5 (.q 6 (.q 7 (.q 8 (.q 9 (.last 10 (.q 11 (.done)))))))))))) : Plan) (by kernel_rfl) ?_
        conv => whnf
        refine ⟨i, rfl, h, ?_⟩
        conv => whnf
        refine ⟨j, rfl, h2, ?_⟩
        conv => whnf
        refine ACall.useR hs ?_
        conv => whnf
        refine ACall.use (l1MostM_spec _ _) ?_
        conv => whnf
        have ew : max (sum4V ny m (qa nx i) (qb nx i) (qa ny j) (qb ny j) u) (IntKind.i64.wrap (0 - sum4V ny m (qa nx i) (qb nx i) (qa ny j) (qb ny j) u)) = abV (sumI nx ny m i j u) := by
          rw [w64 (by omega) (by omega)]
          unfold abV sumI
          split <;> omega
        rw [ew]
        dsimp only
        have eN : IntKind.i64.wrap ((u : Int) + 1) = ((u + 1 : Nat) : Int) := nat_wrap (by omega)
        refine ⟨fun ht => ?_, fun ht => ?_⟩
        · conv => whnf
          refine ⟨fun h5 => ?_, fun h5 => ?_⟩
          · have h5 : abV (sumI nx ny m i j u) > g := of_decide_eq_true h5
            conv => whnf
            refine ADraw.plan tyOk mx (.q 0 (.q 1 (.q 2 (.q 3 (.q 4 (.q 5 (.q 6 (.q 7 (.q 8 (.q 9 (.q 10 (.last 11 (.done)))))))))))) : Plan) (by kernel_rfl) ?_
            conv => whnf
            repeat' (first | (refine ⟨i, rfl, h, ?_⟩; conv => whnf) | (refine ⟨j, rfl, h2, ?_⟩; conv => whnf) | (refine And.intro ?_ ?_ <;> (conv => whnf)))
            all_goals
              rw [eN]
              refine ⟨(u + 1, abV (sumI nx ny m i j u), ((prs nx).getD i ([], [])).1.getD 0 0, ((prs nx).getD i ([], [])).1.getD 1 0, ((prs ny).getD j ([], [])).1.getD 0 0, ((prs ny).getD j ([], [])).1.getD 1 0, (u : Int), true), none, ?_, ⟨by simp only; omega, u2.nextJ hx hy h h2 h3 hB (.inl ⟨rfl, by show g ≤ abV (sumI nx ny m i j u); omega⟩), fun h => by simp at h⟩, by simp only; omega⟩
              (refine ⟨rfl, rfl, ?_, ?_⟩ <;> ((repeat' (first | exact trivial | exact rfl | refine And.intro ?_ ?_)) <;> (try ((conv => whnf); first | refine vint ?_ | refine vboo ?_ | refine rint ?_ | refine rrow ?_ | skip)) <;> (try first | omega | (simp; done) | ((repeat rw [flts_closed _ (by assumption)]); exact vws_closed _ (by assumption)))))
          · have h5 : ¬ abV (sumI nx ny m i j u) > g := of_decide_eq_false h5
            conv => whnf
            rw [eN]
            exact ⟨(u + 1, g, p0, p1, q0, q1, kk, t), none, (by refine ⟨rfl, rfl, ?_, ?_⟩ <;> ((repeat' (first | exact trivial | exact rfl | refine And.intro ?_ ?_)) <;> (try ((conv => whnf); first | refine vint ?_ | refine vboo ?_ | refine rint ?_ | refine rrow ?_ | skip)) <;> (try first | omega | (simp; done) | ((repeat rw [flts_closed _ (by assumption)]); exact vws_closed _ (by assumption))))), ⟨by simp only; omega, u2.nextJ hx hy h h2 h3 hB (.inr ⟨rfl, by show abV (sumI nx ny m i j u) ≤ g; omega⟩), u3⟩, by simp only; omega⟩
        · have hg0 : g = 0 := u3 (by simpa using ht)
          have hab := abV_bd sb
          have hab : 0 ≤ abV (sumI nx ny m i j u) := hab.1
          clear ew
          (repeat (conv => whnf); (first | refine ⟨fun h => absurd h (by decide), fun _ => ?_⟩ | refine ⟨fun _ => ?_, fun h => absurd h (by decide)⟩)); conv => whnf
          refine ADraw.plan tyOk mx (.q 0 (.q 1 (.q 2 (.q 3 (.q 4 (.q 5 (.q 6 (.q 7 (.q 8 (.q 9 (.q 10 (.last 11 (.done)))))))))))) : Plan) (by kernel_rfl) ?_
          conv => whnf
          repeat' (first | (refine ⟨i, rfl, h, ?_⟩; conv => whnf) | (refine ⟨j, rfl, h2, ?_⟩; conv => whnf) | (refine And.intro ?_ ?_ <;> (conv => whnf)))
          all_goals
            rw [eN]
            refine ⟨(u + 1, abV (sumI nx ny m i j u), ((prs nx).getD i ([], [])).1.getD 0 0, ((prs nx).getD i ([], [])).1.getD 1 0, ((prs ny).getD j ([], [])).1.getD 0 0, ((prs ny).getD j ([], [])).1.getD 1 0, (u : Int), true), none, ?_, ⟨by simp only; omega, u2.nextJ hx hy h h2 h3 hB (.inl ⟨rfl, by show g ≤ abV (sumI nx ny m i j u); omega⟩), fun h => by simp at h⟩, by simp only; omega⟩
            (refine ⟨rfl, rfl, ?_, ?_⟩ <;> ((repeat' (first | exact trivial | exact rfl | refine And.intro ?_ ?_)) <;> (try ((conv => whnf); first | refine vint ?_ | refine vboo ?_ | refine rint ?_ | refine rrow ?_ | skip)) <;> (try first | omega | (simp; done) | ((repeat rw [flts_closed _ (by assumption)]); exact vws_closed _ (by assumption)))))
      · have h3 : ¬ u < 4 := by have := of_decide_eq_false h3; omega
        obtain rfl : u = 4 := by omega
        conv => whnf
        rw [nat_wrap (by omega)]
        exact ⟨(j + 1, g, p0, p1, q0, q1, kk, t), none, (by refine ⟨rfl, rfl, ?_, ?_⟩ <;> ((repeat' (first | exact trivial | exact rfl | refine And.intro ?_ ?_)) <;> (try ((conv => whnf); first | refine vint ?_ | refine vboo ?_ | refine rint ?_ | refine rrow ?_ | skip)) <;> (try first | omega | (simp; done) | ((repeat rw [flts_closed _ (by assumption)]); exact vws_closed _ (by assumption))))), ⟨by simp only; omega, u2.nextK, u3⟩, by simp only; omega⟩
    · have h2 := ltF h2
      obtain rfl : j = (prs ny).length := by omega
      conv => whnf
      rw [nat_wrap (by omega)]
      exact ⟨(i + 1, g, p0, p1, q0, q1, kk, t), none, (by refine ⟨rfl, rfl, ?_, ?_⟩ <;> ((repeat' (first | exact trivial | exact rfl | refine And.intro ?_ ?_)) <;> (try ((conv => whnf); first | refine vint ?_ | refine vboo ?_ | refine rint ?_ | refine rrow ?_ | skip)) <;> (try first | omega | (simp; done) | ((repeat rw [flts_closed _ (by assumption)]); exact vws_closed _ (by assumption))))), ⟨by simp only; omega, j2.nextI, j3⟩, by simp only; omega⟩
  · have h := ltF h
    obtain rfl : i = (prs nx).length := by omega
    have hf := i2.fin hx hy
    have hb := i2.pos
    conv => whnf
    exact ⟨rfl, g, p0, p1, q0, q1, kk, t, hf, hb.2, rfl⟩
end Go.Proofs.YtkjdplglenjijaaGreat.L
/- The triple worth: reference. -/
namespace Go.Aw
def sgL : List Int := [1, 1, 1, 1, 1, -1, 1, -1, 0]
theorem sgL_at : ∀ k : Nat, k < 9 → sgL.getD k 0 = 1 ∨ sgL.getD k 0 = -1 ∨ sgL.getD k 0 = 0 := by decide
def tT (m : List (List Int)) : Nat → Int
  | 0 => - o0 m 0 - 2 * o1 m 0 - o1 m 1
  | k + 1 => tT m k + sgL.getD k 0 * n3 m k
theorem tT_bd {m : List (List Int)} (h : Bd m) : ∀ k : Nat, k ≤ 9 → -(10000 + 1000 * (k : Int)) ≤ tT m k ∧ tT m k ≤ 10000 + 1000 * k
  | 0, _ => by
    have a1 := h 0 2; have a2 := h 0 3; have a3 := h 0 1; have a4 := h 1 1; have a5 := h 1 3
    simp only [tT, o0, o1]; omega
  | k + 1, hk => by
    have ih := tT_bd h k (by omega)
    have hn : 0 ≤ n3 m k ∧ n3 m k ≤ 1000 := h k 3
    rw [tT]
    rcases sgL_at k (by omega) with e | e | e <;> rw [e] <;> omega
theorem tT_all (m : List (List Int)) : tT m 9 = tv m := by
  have e : ∀ k, tT m (k + 1) = tT m k + sgL.getD k 0 * n3 m k := fun k => rfl
  rw [e 8, e 7, e 6, e 5, e 4, e 3, e 2, e 1, e 0]
  show - o0 m 0 - 2 * o1 m 0 - o1 m 1 + 1 * n3 m 0 + 1 * n3 m 1 + 1 * n3 m 2 + 1 * n3 m 3 + 1 * n3 m 4 + (-1) * n3 m 5 + 1 * n3 m 6 + (-1) * n3 m 7 + 0 * n3 m 8 = tv m
  unfold tv
  omega
end Go.Aw
namespace Go.Proofs.YtkjdplglenjijaaGreat.L
open Go.Aw
set_option maxRecDepth 100000
set_option maxHeartbeats 4000000
theorem l3Triple_spec (z : Int) (m : List (List Int)) (h9 : R9 m) : FSpec Tryz.prog 30 [.ag [.c (.int .i64 (3)), .c (.int .i64 (3)), .c (.int .i64 (z)), .t (.rows m)]] (ex (.c (.int .i64 (tv m))) []) := by
  have hl := h9.len
  have r0 := h9.four _ (getD_mem (d := []) (show 0 < m.length by omega))
  have r1 := h9.four _ (getD_mem (d := []) (show 1 < m.length by omega))
  have a1 := h9.bd 0 2; have a2 := h9.bd 0 3; have a3 := h9.bd 0 1; have a4 := h9.bd 1 1; have a5 := h9.bd 1 3
  have e0 : one0 (m.getD 0 []) = o0 m 0 := by unfold one0 o0; exact w64 (by omega) (by omega)
  have e1 : one1 (m.getD 0 []) = o1 m 0 := by unfold one1 o1; exact w64 (by omega) (by omega)
  have e2 : one1 (m.getD 1 []) = o1 m 1 := by unfold one1 o1; exact w64 (by omega) (by omega)
  refine fspec tyOk mx Tryz.func30 rfl (by kernel_rfl) rfl ?_
  conv => whnf
  refine ADraw.plan tyOk mx (.q 0 (.q 1 (.q 2 (.q 3 (.q 6 (.q 7 (.q 8 (.q 9 (.q 13 (.q 14 (.q 15 (.q 16 (.last 4 (.q 5 (.last 10 (.q 11 (.q 12 (.last 17 (.q 18 (.q 19 (.done)))))))))))))))))))) : Plan) (by kernel_rfl) ?_
  conv => whnf
  repeat' (first
    | (refine ⟨0, rfl, by omega, ?_⟩; conv => whnf)
    | (refine ⟨1, rfl, by omega, ?_⟩; conv => whnf)
    | (refine ACall.useR (l2One0_spec _ r0) ?_; conv => whnf)
    | (refine ACall.useR (l2One1_spec _ r0) ?_; conv => whnf)
    | (refine ACall.useR (l2One1_spec _ r1) ?_; conv => whnf)
    | (refine And.intro ?_ ?_ <;> (conv => whnf)))
  have eS : IntKind.i64.wrap (IntKind.i64.wrap (IntKind.i64.wrap (0 - one0 (m.getD 0 [])) - IntKind.i64.wrap (2 * one1 (m.getD 0 []))) - one1 (m.getD 1 [])) = tT m 0 := by
    rw [e0, e1, e2]
    unfold tT o0 o1
    rw [w64 (n := 0 - ((m.getD 0 []).getD 2 0 + (m.getD 0 []).getD 3 0)) (by omega) (by omega), w64 (n := 2 * ((m.getD 0 []).getD 1 0 + (m.getD 0 []).getD 3 0)) (by omega) (by omega), w64 (n := 0 - ((m.getD 0 []).getD 2 0 + (m.getD 0 []).getD 3 0) - 2 * ((m.getD 0 []).getD 1 0 + (m.getD 0 []).getD 3 0)) (by omega) (by omega), w64 (by omega) (by omega)]
    omega
  rw [eS]
  refine aloopI tyOk mx (fun k : Nat => (⟨45, [(1, .ptr 0 0), (3, .own 1), (4, .c (.int .i64 (tT m k))), (5, .c (.int .i64 (k)))], [(0, .cells 26 [.c (.int .i64 (3)), .c (.int .i64 (3)), .c (.int .i64 (z)), .t (.rows m)]), (1, .ints 3 .i64 sgL)], 2⟩ : St)) (fun k => k ≤ 9) (fun k => 9 - k) 0 (Nat.zero_le _) none (by refine ⟨rfl, rfl, ?_, ?_⟩ <;> ((repeat' (first | exact trivial | exact rfl | refine And.intro ?_ ?_)) <;> (try ((conv => whnf); first | refine vint ?_ | refine vboo ?_ | refine rint ?_ | refine rrow ?_ | skip)) <;> (try first | omega | (simp; done) | ((repeat rw [flts_closed _ (by assumption)]); exact vws_closed _ (by assumption))))) (fun k hk => ?_)
  refine ⟨fun h => ?_, fun h => ?_⟩
  · have h : k < 9 := by have := of_decide_eq_true h; omega
    have hb := tT_bd h9.bd k (by omega)
    have hn : 0 ≤ n3 m k ∧ n3 m k ≤ 1000 := h9.bd k 3
    have r4 := h9.four _ (getD_mem (d := []) (show k < m.length by omega))
    have es : IntKind.i64.wrap (tT m k + IntKind.i64.wrap (sgL.getD k 0 * (m.getD k []).getD 3 0)) = tT m (k + 1) := by
      show IntKind.i64.wrap (tT m k + IntKind.i64.wrap (sgL.getD k 0 * n3 m k)) = tT m k + sgL.getD k 0 * n3 m k
      rcases sgL_at k h with e | e | e <;> rw [e] <;> rw [w64 (n := _ * n3 m k) (by omega) (by omega), w64 (by omega) (by omega)]
    refine ADraw.std tyOk mx ⟨by kernel_rfl, ?_⟩
    conv => whnf
    refine ⟨k, rfl, h, ?_⟩
    conv => whnf
    refine ⟨k, rfl, by omega, ?_⟩
    conv => whnf
    refine ⟨3, rfl, by omega, ?_⟩
    conv => whnf
    rw [es, nat_wrap (by omega)]
    exact ⟨k + 1, none, (by refine ⟨rfl, rfl, ?_, ?_⟩ <;> ((repeat' (first | exact trivial | exact rfl | refine And.intro ?_ ?_)) <;> (try ((conv => whnf); first | refine vint ?_ | refine vboo ?_ | refine rint ?_ | refine rrow ?_ | skip)) <;> (try first | omega | (simp; done) | ((repeat rw [flts_closed _ (by assumption)]); exact vws_closed _ (by assumption))))), by omega, by omega⟩
  · have h : ¬ k < 9 := by have := of_decide_eq_false h; omega
    obtain rfl : k = 9 := by omega
    conv => whnf
    exact ⟨by rw [tT_all], rfl⟩
end Go.Proofs.YtkjdplglenjijaaGreat.L
/- Calls that write a variable of their caller which also holds what is read-only. -/
namespace Go.Aw
open Go.RowKit

def tcells : List AVal → Bool
  | [] => true
  | .c _ :: r => tcells r
  | .t _ :: r => tcells r
  | _ => false

def tRow : ARow → Bool
  | .cells _ (x :: l) => tcells (x :: l)
  | _ => false

/-- plain values, what is read-only, and the place of the variable -/
def pargs : List AVal → List AVal → Bool
  | [], [] => true
  | .c _ :: l, .c _ :: r => pargs l r
  | .ptr _ _ :: l, .ptr 0 0 :: r => pargs l r
  | .t _ :: l, .t _ :: r => pargs l r
  | _, _ => false

mutual
/-- a result told of what is read-only: rows of the call's own (but the variable, key 0) are given away as read-only -/
def clv (hp : List (Nat × ARow)) : AVal → Option AVal
  | .c v => some (.c v)
  | .t t => some (.t t)
  | .own k => match k with
    | 0 => none
    | k + 1 => match look hp (k + 1) with
      | some r => match closeRow r with
        | some t => some (.t t)
        | none => none
      | none => none
  | .ag l => match clvs hp l with
    | some l' => some (.ag l')
    | none => none
  | .tu l => match clvs hp l with
    | some l' => some (.tu l')
    | none => none
  | _ => none
def clvs (hp : List (Nat × ARow)) : List AVal → Option (List AVal)
  | [] => some []
  | a :: r => match clv hp a with
    | none => none
    | some b => match clvs hp r with
      | none => none
      | some r' => some (b :: r')
end

mutual
def shut : AVal → Bool
  | .c _ => true
  | .t _ => true
  | .ag l => shuts l
  | .tu l => shuts l
  | _ => false
def shuts : List AVal → Bool
  | [] => true
  | a :: r => shut a && shuts r
end

def resx (l : List AVal) : AVal :=
  match l with
  | [x] => x
  | l => .tu l

section
variable {P : Program} {Γ : Tys} {w0 : Base} {w w' : World} {ob : Nat → Prop} {st : St} {a : Act} {η : Env}

mutual
theorem shut_rep {bad bad' : Nat → Prop} {hp hp' : List (Nat × ARow)} {nx nx' : Nat} {η η' : Env} (hk : Keeps w bad w' bad') : ∀ (x : AVal) {v : Value}, shut x = true → VRep w bad hp nx η x v → VRep w' bad' hp' nx' η' x v
  | .c _, _, _, hv => hv
  | .t _, _, _, hv => TRep.keeps hk hv
  | .ag l, _, h, ⟨cs, e, hv⟩ => ⟨cs, e, shuts_rep hk l (by simpa [shut] using h) hv⟩
  | .tu l, _, h, ⟨cs, e, hv⟩ => ⟨cs, e, shuts_rep hk l (by simpa [shut] using h) hv⟩
  | .un, _, h, _ => by simp [shut] at h
  | .own _, _, h, _ => by simp [shut] at h
  | .sub _ _, _, h, _ => by simp [shut] at h
  | .ptr _ _, _, h, _ => by simp [shut] at h
  | .subp _ _ _, _, h, _ => by simp [shut] at h
  | .adr _ _, _, h, _ => by simp [shut] at h
  | .rp _ _, _, h, _ => by simp [shut] at h
  | .clo _ _, _, h, _ => by simp [shut] at h
  | .knot _ _ _, _, h, _ => by simp [shut] at h
  | .nul, _, h, _ => by simp [shut] at h
theorem shuts_rep {bad bad' : Nat → Prop} {hp hp' : List (Nat × ARow)} {nx nx' : Nat} {η η' : Env} (hk : Keeps w bad w' bad') : ∀ (l : List AVal) {vs : List Value}, shuts l = true → VReps w bad hp nx η l vs → VReps w' bad' hp' nx' η' l vs
  | [], [], _, _ => trivial
  | x :: l, v :: vs, h, hv => by
    simp only [shuts, Bool.and_eq_true] at h
    exact ⟨shut_rep hk x h.1 hv.1, shuts_rep hk l h.2 hv.2⟩
  | [], _ :: _, _, h => h.elim
  | _ :: _, [], _, h => h.elim
end

mutual
theorem clv_shut {hp : List (Nat × ARow)} : ∀ (x : AVal) {y : AVal}, clv hp x = some y → shut y = true ∧ vw hp [(0, .row 0)] 1 x y
  | .c v, y, h => by simp only [clv, Option.some.injEq] at h; subst h; exact ⟨rfl, rfl⟩
  | .t t, y, h => by simp only [clv, Option.some.injEq] at h; subst h; exact ⟨rfl, rfl⟩
  | .own 0, y, h => by simp [clv] at h
  | .own (k + 1), y, h => by
    simp only [clv] at h
    split at h
    · rename_i r hr
      split at h
      · rename_i t ht
        simp only [Option.some.injEq] at h
        subst h
        refine ⟨rfl, ?_⟩
        show keyIn (k + 1) [(0, Org.row 0)] = false ∧ (match look hp (k + 1) with | some r => closeRow r = some t | none => False)
        rw [hr]
        exact ⟨rfl, ht⟩
      · cases h
    · cases h
  | .ag l, y, h => by
    simp only [clv] at h
    split at h
    · rename_i l' hl
      simp only [Option.some.injEq] at h
      subst h
      obtain ⟨h1, h2⟩ := clvs_shut l hl
      exact ⟨by simpa [shut] using h1, h2⟩
    · cases h
  | .tu l, y, h => by
    simp only [clv] at h
    split at h
    · rename_i l' hl
      simp only [Option.some.injEq] at h
      subst h
      obtain ⟨h1, h2⟩ := clvs_shut l hl
      exact ⟨by simpa [shut] using h1, h2⟩
    · cases h
  | .un, _, h => by simp [clv] at h
  | .sub _ _, _, h => by simp [clv] at h
  | .ptr _ _, _, h => by simp [clv] at h
  | .subp _ _ _, _, h => by simp [clv] at h
  | .adr _ _, _, h => by simp [clv] at h
  | .rp _ _, _, h => by simp [clv] at h
  | .clo _ _, _, h => by simp [clv] at h
  | .knot _ _ _, _, h => by simp [clv] at h
  | .nul, _, h => by simp [clv] at h
theorem clvs_shut {hp : List (Nat × ARow)} : ∀ (l : List AVal) {l' : List AVal}, clvs hp l = some l' → shuts l' = true ∧ vws hp [(0, .row 0)] 1 l l'
  | [], l', h => by simp only [clvs, Option.some.injEq] at h; subst h; exact ⟨rfl, trivial⟩
  | x :: l, l', h => by
    simp only [clvs] at h
    split at h
    · cases h
    · rename_i y hy
      split at h
      · cases h
      · rename_i r' hr
        simp only [Option.some.injEq] at h
        subst h
        obtain ⟨a1, a2⟩ := clv_shut x hy
        obtain ⟨b1, b2⟩ := clvs_shut l hr
        exact ⟨by simp [shuts, a1, b1], a2, b2⟩
end

theorem tcells_vws {hp : List (Nat × ARow)} {R : List (Nat × Org)} {nx : Nat} : ∀ {l : List AVal}, tcells l = true → vws hp R nx l l
  | [], _ => trivial
  | .c _ :: l, h => ⟨rfl, tcells_vws (l := l) (by simpa [tcells] using h)⟩
  | .t _ :: l, h => ⟨rfl, tcells_vws (l := l) (by simpa [tcells] using h)⟩
  | .un :: _, h => by simp [tcells] at h
  | .ag _ :: _, h => by simp [tcells] at h
  | .tu _ :: _, h => by simp [tcells] at h
  | .own _ :: _, h => by simp [tcells] at h
  | .sub _ _ :: _, h => by simp [tcells] at h
  | .ptr _ _ :: _, h => by simp [tcells] at h
  | .subp _ _ _ :: _, h => by simp [tcells] at h
  | .adr _ _ :: _, h => by simp [tcells] at h
  | .rp _ _ :: _, h => by simp [tcells] at h
  | .clo _ _ :: _, h => by simp [tcells] at h
  | .knot _ _ _ :: _, h => by simp [tcells] at h
  | .nul :: _, h => by simp [tcells] at h

theorem resx_rep {bad : Nat → Prop} {hp : List (Nat × ARow)} {nx : Nat} {η : Env} : ∀ {l : List AVal} {us : List Value}, VReps w bad hp nx η l us → VRep w bad hp nx η (resx l) (if hh : us.toArray.size = 1 then us.toArray[0] else .tuple us.toArray)
  | [x], [u], h => by rw [dif_pos (by rfl)]; exact h.1
  | [], [], h => by rw [dif_neg (by simp)]; exact ⟨_, rfl, h⟩
  | x :: y :: l, u :: v :: us, h => by rw [dif_neg (by simp)]; exact ⟨_, rfl, h⟩
  | [_], [], h => h.elim
  | [_], _ :: _ :: _, h => h.2.elim
  | [], _ :: _, h => h.elim
  | _ :: _ :: _, [], h => h.elim
  | _ :: _ :: _, [_], h => h.2.elim

theorem tcells_rep {bad bad' : Nat → Prop} {hp hp' : List (Nat × ARow)} {nx nx' : Nat} {η η' : Env} (hk : Keeps w bad w bad') : ∀ {l : List AVal} {vs : List Value}, tcells l = true → VReps w bad hp nx η l vs → VReps w bad' hp' nx' η' l vs
  | [], [], _, _ => trivial
  | .c _ :: l, _ :: vs, h, hv => ⟨hv.1, tcells_rep hk (l := l) (by simpa [tcells] using h) hv.2⟩
  | .t _ :: l, _ :: vs, h, hv => ⟨TRep.keeps hk hv.1, tcells_rep hk (l := l) (by simpa [tcells] using h) hv.2⟩
  | [], _ :: _, _, h => h.elim
  | .c _ :: _, [], _, h => h.elim
  | .t _ :: _, [], _, h => h.elim
  | .un :: _, _, h, _ => by simp [tcells] at h
  | .ag _ :: _, _, h, _ => by simp [tcells] at h
  | .tu _ :: _, _, h, _ => by simp [tcells] at h
  | .own _ :: _, _, h, _ => by simp [tcells] at h
  | .sub _ _ :: _, _, h, _ => by simp [tcells] at h
  | .ptr _ _ :: _, _, h, _ => by simp [tcells] at h
  | .subp _ _ _ :: _, _, h, _ => by simp [tcells] at h
  | .adr _ _ :: _, _, h, _ => by simp [tcells] at h
  | .rp _ _ :: _, _, h, _ => by simp [tcells] at h
  | .clo _ _ :: _, _, h, _ => by simp [tcells] at h
  | .knot _ _ _ :: _, _, h, _ => by simp [tcells] at h
  | .nul :: _, _, h, _ => by simp [tcells] at h

theorem pargs_rep {badS bad bad' : Nat → Prop} {hpS hp : List (Nat × ARow)} {nxS nx nx' : Nat} {ηS η1 : Env} {R : List (Nat × Org)} (hk : Keeps w badS w bad') : ∀ (l l0 : List AVal) (vs : List Value), pargs l l0 = true → vws hpS R nx' l l0 →
    VReps w badS hpS nxS ηS l vs → VReps w bad hp nx η1 l0 vs → VReps w bad' hp nx η1 l0 vs
  | l, l0, vs, h, hv, hs, h0 => by
    unfold pargs at h
    split at h
    · cases vs with
      | nil => trivial
      | cons => exact h0.elim
    · cases vs with
      | nil => exact h0.elim
      | cons v vs => exact ⟨h0.1, pargs_rep hk _ _ vs h hv.2 hs.2 h0.2⟩
    · cases vs with
      | nil => exact h0.elim
      | cons v vs => exact ⟨h0.1, pargs_rep hk _ _ vs h hv.2 hs.2 h0.2⟩
    · rename_i t l t' r
      cases vs with
      | nil => exact h0.elim
      | cons v vs =>
        have e : t = t' := hv.1
        subst e
        exact ⟨TRep.keeps hk hs.1, pargs_rep hk _ _ vs h hv.2 hs.2 h0.2⟩
    · cases h
termination_by l => l.length

/-- A FUNCTION THAT WRITES A VARIABLE OF ITS CALLER (key 0), in which read-only slices may stand: it hands back a plain value -/
def TSpec (P : Program) (f : FuncId) (r0 : ARow) (args : List AVal) (post : AVal → ARow → Prop) : Prop := FOk P f ∧
  ∀ (w : World) (B : Nat) (ob : Nat → Prop) (η : Env) (vs : List Value), B ≤ w.heap.size → (∀ b, ob b → b < w.heap.size) → (∀ b, b ∈ bsOf η 0 r0 → ¬ ob b) →
    HRep w B ob [(0, r0)] 1 η → VReps w (badOf ob [(0, r0)] η) [(0, r0)] 1 η args vs →
    Calls P f vs.toArray w fun e w' => ∃ v x r' η', e = .returned v ∧ VRep w' (badOf ob [(0, r')] η') [] 0 η0 x v ∧ shut x = true ∧ post x r' ∧ Below B w w' ∧
      (∀ b, b < w.heap.size → b ∉ bsOf η 0 r0 → w'.heap[b]? = w.heap[b]?) ∧ tRow r' = true ∧ RowRep w' B (badOf ob [(0, r')] η') [(0, r')] 1 η' 0 r' ∧ (bsOf η' 0 r').Nodup ∧
      (∀ b, b ∈ bsOf η' 0 r' → b ∈ bsOf η 0 r0 ∨ w.heap.size ≤ b) ∧ r'.kind = r0.kind ∧ η'.val 0 = η.val 0 ∧ (η'.cel 0).length = (η.cel 0).length

def tfin (sz : Nat) (r0 : ARow) (post : AVal → ARow → Prop) (st : St) (l : List AVal) : Prop :=
  match clv st.hp (resx l) with
  | some x => match look st.sl sz with
    | some g => match look st.hp 0 with
      | some r' => match Nat.beq r'.kind r0.kind && isGhost r' g && tRow r' && sameLen r0 r' && Nat.beq st.sz sz with
        | true => post x r'
        | false => False
      | none => False
    | none => False
  | none => False

def tend (Γ : Tys) (rs : List ResultVar) (sz : Nat) (r0 : ARow) (post : AVal → ARow → Prop) : Exit → St → Prop
  | .ret, st => ares Γ st rs (tfin sz r0 post st)
  | .normal, st => ares Γ st rs (tfin sz r0 post st)
  | _, _ => False

theorem tspec (hΓ : TysOk P Γ) (hm : P.follows .mixedOrders = true) {f : FuncId} {fn : Func} {c : Code} {r0 : ARow} {args : List AVal} {post : AVal → ARow → Prop} (hf : P.funcs[f]? = some fn) (hb : fn.body = some c)
    (hname : (fn.name == "runtime.NumGoroutine") = false) (hn : Nat.ble args.length fn.ntmps = true) (hg : tRow r0 = true)
    (h : acode P Γ c ⟨fn.ntmps, (fn.ntmps, ghostOf r0) :: initSl 0 args, [(0, r0)], 1⟩ (tend Γ fn.results.toList fn.ntmps r0 post)) : TSpec P f r0 args post := by
  refine ⟨⟨fn, hf, hname, by rw [hb]; rfl⟩, fun w B ob η vs hB hobl hfree hh hvs => ?_⟩
  refine calls_of_wp hf hb ?_
  have hle := Nat.le_of_ble_eq_true hn
  have hlen := VReps.length hvs
  have hr0 : look [(0, r0)] 0 = some r0 := rfl
  have hrow0 := hh.row 0 r0 hr0
  have hone : ∀ k r, look [(0, r0)] k = some r → k = 0 ∧ r = r0 := fun k r hk => by
    rw [look_cons] at hk
    split at hk
    · rename_i h0; exact ⟨h0.symm, (Option.some.inj hk).symm⟩
    · cases hk
  let γ : Nat → Value := fun i => if i = fn.ntmps then η.val 0 else undef
  let W0 : Base := ⟨w, B, fun b => b ∈ bsOf η 0 r0, γ⟩
  have hs : SRep W0 ob ⟨fn.ntmps, (fn.ntmps, ghostOf r0) :: initSl 0 args, [(0, r0)], 1⟩ { tmps := vs.toArray ++ Array.replicate (fn.ntmps - vs.toArray.size) undef, defers := [] } w η := by
    have hsz : (vs.toArray ++ Array.replicate (fn.ntmps - vs.toArray.size) undef).size = fn.ntmps := by simp; omega
    refine ⟨rfl, hsz, Below.refl _ _, ⟨hB, hobl, hfree⟩, fun _ _ _ => rfl, fun b ⟨k, r, hk, hb⟩ => ?_, hh, fun i x hi => ?_⟩
    · obtain ⟨rfl, rfl⟩ := hone k r hk; exact .inl hb
    · simp only at hi
      rw [look_cons] at hi
      split at hi
      · rename_i hni
        subst hni
        have hx := Option.some.inj hi
        subst hx
        have hget : (vs.toArray ++ Array.replicate (fn.ntmps - vs.toArray.size) undef).getD fn.ntmps (W0.γ fn.ntmps) = η.val 0 := by
          have : W0.γ fn.ntmps = η.val 0 := if_pos rfl
          rw [Array.getD_eq_getD_getElem?, Array.getElem?_eq_none (by rw [hsz]; exact Nat.le_refl _), this]; rfl
        rw [hget]
        match r0, hg, hrow0, hone with
        | .ints .., hg, _, _ => simp [tRow] at hg
        | .rows .., hg, _, _ => simp [tRow] at hg
        | .recs .., hg, _, _ => simp [tRow] at hg
        | .cells _ [], hg, _, _ => simp [tRow] at hg
        | .cells _ (y :: l), _, hrow0, _ =>
          obtain ⟨b, h1, _, _, h4⟩ := hrow0
          have := VReps.length h4
          exact ⟨Nat.one_pos, fun r _ => ⟨by rw [← this]; simp, b, by rw [h1]; rfl, h1⟩⟩
      · rename_i hni
        obtain ⟨v, _, h2, h3⟩ := init_look' hvs i x hi
        simp only [Nat.sub_zero] at h2
        have hlt : i < vs.length := (List.getElem?_eq_some_iff.1 h2).1
        have : (vs.toArray ++ Array.replicate (fn.ntmps - vs.toArray.size) undef).getD i (W0.γ i) = v := by
          rw [Array.getD_eq_getD_getElem?, Array.getElem?_append_left (by simpa using hlt)]
          simp [h2]
        rw [this]
        exact h3
  refine wp_mono (acode_sound (w0 := W0) hΓ hm c _ _ _ w h ⟨η, hs⟩) (fun e a' w' hl => ?_)
  obtain ⟨st', hk, η', hs'⟩ := hl
  have fin : ares Γ st' fn.results.toList (tfin fn.ntmps r0 post st') → ∃ v, (results fn a'.tmps).run P w' = .ok v w' ∧ ∃ v' x r' η', Ending.returned v = .returned v' ∧ VRep w' (badOf ob [(0, r')] η') [] 0 η0 x v' ∧ shut x = true ∧ post x r' ∧ Below B w w' ∧
      (∀ b, b < w.heap.size → b ∉ bsOf η 0 r0 → w'.heap[b]? = w.heap[b]?) ∧ tRow r' = true ∧ RowRep w' B (badOf ob [(0, r')] η') [(0, r')] 1 η' 0 r' ∧ (bsOf η' 0 r').Nodup ∧
      (∀ b, b ∈ bsOf η' 0 r' → b ∈ bsOf η 0 r0 ∨ w.heap.size ≤ b) ∧ r'.kind = r0.kind ∧ η'.val 0 = η.val 0 ∧ (η'.cel 0).length = (η.cel 0).length := fun hk => by
    obtain ⟨xs, us, h1, h2, h3⟩ := ares_sound hΓ hs' hk
    have hres := results_run h3
    unfold tfin at h1
    split at h1
    case h_2 => exact h1.elim
    case h_1 x hx =>
      obtain ⟨hsh, hvw⟩ := clv_shut (resx xs) hx
      have hres0 := resx_rep h2
      split at h1
      case h_2 => exact h1.elim
      case h_1 g hgl =>
        split at h1
        case h_2 => exact h1.elim
        case h_1 r' hr' =>
          split at h1
          case h_2 => exact h1.elim
          case h_1 hc =>
            simp only [Bool.and_eq_true] at hc
            obtain ⟨⟨⟨⟨c1, c2⟩, c3⟩, c4⟩, c5⟩ := hc
            have hsz' := Nat.eq_of_beq_eq_true c5
            have hkind := Nat.eq_of_beq_eq_true c1
            · have hrow' := hs'.heap.row 0 r' hr'
              have hkeep : Keeps w' (badOf ob st'.hp η') w' (badOf ob [(0, r')] η') := fun b o x hb hc => by
                refine ⟨?_, hc⟩
                rintro (h1 | ⟨j, r1, hj, hm⟩)
                · exact hb (.inl h1)
                · rw [look_cons] at hj
                  split at hj
                  · rename_i h0
                    subst h0
                    obtain rfl := Option.some.inj hj
                    exact hb (.inr ⟨0, _, hr', hm⟩)
                  · cases hj
              have hfrm : ∀ b, b < w.heap.size → b ∉ bsOf η 0 r0 → w'.heap[b]? = w.heap[b]? := fun b hb hnb => hs'.frame b hb hnb
              have hsrc : ∀ b, b ∈ bsOf η' 0 r' → b ∈ bsOf η 0 r0 ∨ w.heap.size ≤ b := fun b hb => hs'.src b ⟨0, r', hr', hb⟩
              have hnod := hs'.heap.nodup 0 r' hr'
              match r0, r', g, hg, c2, c3, c4, hrow0, hrow', hr', hgl, hkeep, hkind, h1, hfrm, hsrc, hnod with
              | .cells _ (y0 :: l0), .cells e (y :: l), .ptr 0 0, _, _, c3, c4, hrow0, hrow', hr', hgl, hkeep, hkind, h1, hfrm, hsrc, hnod =>
                obtain ⟨b0, p1, p2, p3, p4⟩ := hrow0
                obtain ⟨b1, q1, q2, q3, q4⟩ := hrow'
                have hslot := hs'.slot _ _ hgl
                have hget : a'.tmps.getD fn.ntmps (W0.γ fn.ntmps) = η.val 0 := by
                  have e1 : W0.γ fn.ntmps = η.val 0 := if_pos rfl
                  rw [Array.getD_eq_getD_getElem?, Array.getElem?_eq_none (by rw [hs'.size, hsz']; exact Nat.le_refl _), e1]; rfl
                rw [hget] at hslot
                have hval : η'.val 0 = η.val 0 := by
                  obtain ⟨_, b', e2, e3⟩ := hslot.2 _ hr'
                  rw [q1, ptr_blk] at e2
                  simp only [List.cons.injEq, and_true] at e2
                  rw [q1, e3, e2]
                have hlen' : (η'.cel 0).length = (η.cel 0).length := by
                  have l0' := VReps.length p4
                  have l1' := VReps.length q4
                  have := Nat.eq_of_beq_eq_true c4
                  omega
                have hrv : rowsVw st'.hp [(0, Org.row 0)] 1 [(0, .cells e (y :: l))] := ⟨rfl, by
                  show rowVw st'.hp [(0, Org.row 0)] 1 (.row 0) _
                  simp only [rowVw, hr']
                  exact ⟨trivial, tcells_vws c3⟩, trivial⟩
                have hvr := vw_sound hs'.heap (fun b hb => hs'.free hb) hrv (resx xs) x hvw hres0
                have hkk : Keeps w' (badOf ob [(0, .cells e (y :: l))] (ηV st'.hp η' [(0, Org.row 0)])) w' (badOf ob [(0, .cells e (y :: l))] η') := fun b o z hb hc => by
                  refine ⟨?_, hc⟩
                  rintro (k1 | ⟨j, r1, hj, hm⟩)
                  · exact hb (.inl k1)
                  · rw [look_cons] at hj
                    split at hj
                    · rename_i h0
                      subst h0
                      obtain rfl := Option.some.inj hj
                      exact hb (.inr ⟨0, _, rfl, hm⟩)
                    · cases hj
                have hvr' := shut_rep (hp' := []) (nx' := 0) (η' := η0) hkk x hsh hvr
                refine ⟨_, hres, _, x, .cells e (y :: l), η', rfl, hvr', hsh, h1, hs'.below, hfrm, c3, ⟨b1, q1, q2, q3, tcells_rep hkeep c3 q4⟩, hnod, hsrc, hkind, hval, hlen'⟩
  cases e with
  | ret => exact ⟨hs'.defers, fin hk⟩
  | normal => exact ⟨hs'.defers, fin hk⟩
  | _ => exact hk.elim

/-- a variable's cells have become others -/
theorem SRep.mutT (h : SRep w0 ob st a w η) {k : Nat} {r r' : ARow} {cs' : List Value} (hr : look st.hp k = some r) (hkind : r'.kind = r.kind) (hlen : (η.cel k).length ≤ cs'.length)
    (hw : ∀ b, b < w.heap.size → b ∉ bsOf η k r → w'.heap[b]? = w.heap[b]?) (hB : Below w0.B w w')
    (hnd : (bsOf (η.upd k (η.val k) cs') k r').Nodup) (hfr : ∀ b, b ∈ bsOf (η.upd k (η.val k) cs') k r' → b ∈ bsOf η k r ∨ w.heap.size ≤ b)
    (hrow : RowRep w' w0.B (badOf ob ((st.killSub k).upd k r').hp (η.upd k (η.val k) cs')) ((st.killSub k).upd k r').hp st.nx (η.upd k (η.val k) cs') k r') :
    SRep w0 ob ((st.killSub k).upd k r') a w' (η.upd k (η.val k) cs') := by
  have hoth : ∀ j r1, j ≠ k → look ((st.killSub k).upd k r').hp j = some r1 → ∃ r, look st.hp j = some r ∧ r1 = r.flt (fun _ => true) (ne k) := fun j r1 hj h1 => by
    simp only [St.upd, St.killSub, look_upd, if_neg (Ne.symm hj), look_fltH] at h1
    obtain ⟨r, h2, rfl⟩ := Option.map_eq_some_iff.1 h1
    exact ⟨r, h2, rfl⟩
  have hk' : look ((st.killSub k).upd k r').hp k = some r' := by simp only [St.upd, look_upd, if_true]
  have hok : ∀ j, j < st.nx → OwnOk st.hp η ((st.killSub k).upd k r').hp (η.upd k (η.val k) cs') j := fun j _ => by
    by_cases hjk : j = k
    · subst hjk
      exact ⟨fun r1 h1 => by rw [hk'] at h1; obtain rfl := Option.some.inj h1; exact ⟨r, hr, hkind.symm, upd_val _ _ _ _, by rw [upd_cel]; exact hlen⟩⟩
    · exact OwnOk.of (fun r1 h1 => by obtain ⟨r, h2, rfl⟩ := hoth j r1 hjk h1; exact ⟨r, h2, (kind_flt _ _ r).symm⟩) (upd_ne _ _ _ _ j hjk).1 (upd_ne _ _ _ _ j hjk).2
  have hsk : ∀ j, j < st.nx → ne k j = true → SubOk st.hp η ((st.killSub k).upd k r').hp (η.upd k (η.val k) cs') j := fun j _ hj => by
    have hjk := (ne_spec k j).1 hj
    exact SubOk.of (fun r1 h1 => by obtain ⟨r, h2, rfl⟩ := hoth j r1 hjk h1; exact ⟨r, h2, (kind_flt _ _ r).symm⟩) (upd_ne _ _ _ _ j hjk).2
  obtain ⟨hh, hkp⟩ := HRep.step (k := k) (hp' := ((st.killSub k).upd k r').hp) (nx' := st.nx) (η' := η.upd k (η.val k) cs') (w' := w') h.heap (fun _ => true) (ne k) r' (h.heap.lt k r hr) (Nat.le_refl _)
    (fun j r1 hj h1 => hoth j r1 hj h1) hk' (fun j hj => upd_ne _ _ _ _ j hj)
    (fun b hb hn => hw b hb (hn r hr)) (fun j hj _ => hok j hj) hsk hnd
    (fun b hb => (hfr b hb).imp (fun h1 => ⟨k, r, hr, h1, .inl rfl⟩) id) (fun _ => hrow)
  exact h.heapStep (fun _ => true) (ne k) hB hh hkp (Nat.le_refl _) (fun j hj _ => hok j hj) hsk

theorem tmut_core {f : FuncId} {args args0 : List AVal} {r0 : ARow} {K : AVal → St → Prop} {post : AVal → ARow → Prop} (k : Nat) (hs : TSpec P f r0 args0 post)
    (hk : ∀ x r', post x r' → K x ((st.killSub k).upd k r')) (hlk : look st.hp k = some r0) (hv : vws st.hp [(0, .row k)] 1 args args0) (hr : rowVw st.hp [(0, .row k)] 1 (.row k) r0)
    (hp : pargs args args0 = true) (ht : tRow r0 = true) (h : SRep w0 ob st a w η) (vs : List Value) (hvs : VReps w (fun b => ob b ∨ ownB st.hp η b) st.hp st.nx η args vs) :
    Calls P f vs.toArray w fun e w' => (∃ v x st' η', e = .returned v ∧ K x st' ∧ st'.sz = st.sz ∧ SRep w0 ob st' a w' η' ∧ VRep w' (fun b => ob b ∨ ownB st'.hp η' b) st'.hp st'.nx η' x v) ∧
      w.heap.size ≤ w'.heap.size ∧ ∀ b, b < w.heap.size → b ∉ bsOf η k r0 → w'.heap[b]? = w.heap[b]? := by
  have hrv : rowsVw st.hp [(0, .row k)] 1 [(0, r0)] := ⟨rfl, hr, trivial⟩
  have hfree : ∀ b, ownB st.hp η b → ¬ ob b := fun b hb => h.free hb
  have ha0 := vws_sound (R := [(0, .row k)]) (nx' := 1) h.heap hfree hrv args args0 hv hvs
  let η1 : Env := ηV st.hp η [(0, Org.row k)]
  let ob1 : Nat → Prop := fun b => ob b ∨ ∃ j r, j ≠ k ∧ look st.hp j = some r ∧ b ∈ bsOf η j r
  have hv0 : η1.val 0 = η.val k := rfl
  have hc0 : η1.cel 0 = η.cel k := rfl
  have hbs : ∀ r, bsOf η1 0 r = bsOf η k r := fun r => by simp only [bsOf, hv0, hc0]
  have hone : ∀ j r, look [(0, r0)] j = some r → j = 0 ∧ r = r0 := fun j r hk => by
    rw [look_cons] at hk
    split at hk
    · rename_i h0; exact ⟨h0.symm, (Option.some.inj hk).symm⟩
    · cases hk
  have hdis : ∀ b, b ∈ bsOf η1 0 r0 → ¬ ob1 b := fun b hb => by
    rw [hbs] at hb
    rintro (h1 | ⟨j, r, hj, hl, hm⟩)
    · exact hfree b ⟨k, r0, hlk, hb⟩ h1
    · exact h.heap.apart j r k r0 hl hlk hj b hm hb
  have hkeep : Keeps w (badOf ob st.hp η) w (badOf ob1 [(0, r0)] η1) := fun b o x hb hc => by
    refine ⟨?_, hc⟩
    rintro ((h1 | ⟨j, r, _, hl, hm⟩) | ⟨j, r, hj, hm⟩)
    · exact hb (.inl h1)
    · exact hb (.inr ⟨j, r, hl, hm⟩)
    · obtain ⟨rfl, rfl⟩ := hone j r hj
      rw [hbs] at hm
      exact hb (.inr ⟨k, _, hlk, hm⟩)
  have hh1 : HRep w w0.B ob1 [(0, r0)] 1 η1 := by
    refine ⟨fun j r hj => ?_, fun j r hj => ?_, fun j r j' r' hj hj' hne => ?_, fun j r hj => ?_⟩
    · obtain ⟨rfl, rfl⟩ := hone j r hj
      have hrow := h.heap.row k _ hlk
      match r, ht, hrow with
      | .cells e (y :: l), ht, ⟨b, p1, p2, p3, p4⟩ => exact ⟨b, by rw [hv0]; exact p1, p2, by rw [hc0]; exact p3, by rw [hc0]; exact tcells_rep hkeep ht p4⟩
      | .cells _ [], ht, _ => simp [tRow] at ht
      | .ints .., ht, _ => simp [tRow] at ht
      | .rows .., ht, _ => simp [tRow] at ht
      | .recs .., ht, _ => simp [tRow] at ht
    · obtain ⟨rfl, rfl⟩ := hone j r hj
      rw [hbs]; exact h.heap.nodup k _ hlk
    · obtain ⟨rfl, rfl⟩ := hone j r hj
      obtain ⟨rfl, rfl⟩ := hone j' r' hj'
      exact absurd rfl hne
    · obtain ⟨rfl, rfl⟩ := hone j r hj
      exact Nat.one_pos
  refine (hs.2 w w0.B ob1 η1 vs (wB h) (fun b hb => ?_) hdis hh1 (pargs_rep hkeep args args0 vs hp hv hvs ha0)).mono ?_
  · rcases hb with h1 | ⟨j, r, _, hl, hm⟩
    · exact h.badlt (.inl h1)
    · exact h.badlt (.inr ⟨j, r, hl, hm⟩)
  · rintro e w' ⟨v, x, r', η', rfl, hvx, hsh, hpo, hbel, hfrm, ht', hrow, hnd, hsrc, hkind, hval, hlen⟩
    have hu : (η.upd k (η.val k) (η'.cel 0)).val k = η'.val 0 := by rw [upd_val, hval, hv0]
    have hbs' : bsOf (η.upd k (η.val k) (η'.cel 0)) k r' = bsOf η' 0 r' := by simp only [bsOf, hu, upd_cel]
    have hkeep' : Keeps w' (badOf ob1 [(0, r')] η') w' (badOf ob ((st.killSub k).upd k r').hp (η.upd k (η.val k) (η'.cel 0))) := fun b o x hb hc => by
      refine ⟨?_, hc⟩
      rintro (h1 | ⟨j, r1, hj, hm⟩)
      · exact hb (.inl (.inl h1))
      · by_cases hjk : j = k
        · subst hjk
          simp only [St.upd, look_upd, if_true] at hj
          obtain rfl := Option.some.inj hj
          rw [hbs'] at hm
          exact hb (.inr ⟨0, _, rfl, hm⟩)
        · simp only [St.upd, St.killSub, look_upd, if_neg (Ne.symm hjk), look_fltH] at hj
          obtain ⟨r2, h2, rfl⟩ := Option.map_eq_some_iff.1 hj
          rw [bsOf_flt, bsOf_congr (upd_ne _ _ _ _ j hjk).1 (upd_ne _ _ _ _ j hjk).2 rfl] at hm
          exact hb (.inl (.inr ⟨j, r2, hjk, h2, hm⟩))
    have hs' := SRep.mutT (w' := w') h (cs' := η'.cel 0) hlk hkind (by rw [hlen, hc0]; exact Nat.le_refl _) (fun b hb hn => hfrm b hb (by rw [hbs]; exact hn)) hbel
      (by rw [hbs']; exact hnd) (fun b hb => by rw [hbs'] at hb; rw [← hbs]; exact hsrc b hb) (by
        match r', ht', hrow with
        | .cells e (y :: l), ht', ⟨b, p1, p2, p3, p4⟩ => exact ⟨b, by rw [hu]; exact p1, p2, by rw [upd_cel]; exact p3, by rw [upd_cel]; exact tcells_rep hkeep' ht' p4⟩
        | .cells _ [], ht', _ => simp [tRow] at ht'
        | .ints .., ht', _ => simp [tRow] at ht'
        | .rows .., ht', _ => simp [tRow] at ht'
        | .recs .., ht', _ => simp [tRow] at ht')
    exact ⟨⟨v, x, _, _, rfl, hk x r' hpo, rfl, hs', shut_rep hkeep' x hsh hvx⟩, hbel.size, fun b hb hn => hfrm b hb (by rw [hbs]; exact hn)⟩

theorem ACallS.tmut {f : FuncId} {args args0 : List AVal} {r0 : ARow} {K : AVal → St → Prop} {post : AVal → ARow → Prop} (k : Nat) (hs : TSpec P f r0 args0 post)
    (hk : ∀ x r', post x r' → K x ((st.killSub k).upd k r')) (hlk : look st.hp k = some r0) (hv : vws st.hp [(0, .row k)] 1 args args0) (hr : rowVw st.hp [(0, .row k)] 1 (.row k) r0)
    (hp : pargs args args0 = true := by rfl) (ht : tRow r0 = true := by rfl) : ACallS P st f args K :=
  ⟨hs.1, fun _ _ _ _ _ h vs hvs => (tmut_core k hs hk hlk hv hr hp ht h vs hvs).mono fun _ _ h => h.1⟩

theorem ACallT.tmut {f : FuncId} {args args0 : List AVal} {r0 : ARow} {K : AVal → St → Prop} {post : AVal → ARow → Prop} (hs : TSpec P f r0 args0 post)
    (hk : ∀ x r', post x r' → K x ((st.killSub 0).upd 0 r')) (hlk : look st.hp 0 = some r0) (hv : vws st.hp [(0, .row 0)] 1 args args0) (hr : rowVw st.hp [(0, .row 0)] 1 (.row 0) r0)
    (hp : pargs args args0 = true := by rfl) (ht : tRow r0 = true := by rfl) : ACallT P st f args K :=
  ⟨hs.1, fun _ _ _ _ _ h vs hvs => (tmut_core 0 hs hk hlk hv hr hp ht h vs hvs).mono fun _ _ h => ⟨h.1, h.2.1, fun r hr => by
    rw [hlk] at hr
    obtain rfl := Option.some.inj hr
    exact h.2.2⟩⟩

/-- .. of a number, of a list: the contract's arguments are the call's -/
theorem ACallT.tmutI {f : FuncId} {n : Int} {r0 : ARow} {K : AVal → St → Prop} {post : AVal → ARow → Prop} (hs : TSpec P f r0 [.ptr 0 0, .c (.int .i64 n)] post)
    (hk : ∀ x r', post x r' → K x ((st.killSub 0).upd 0 r')) (hlk : look st.hp 0 = some r0) (hr : rowVw st.hp [(0, .row 0)] 1 (.row 0) r0)
    (ht : tRow r0 = true := by rfl) : ACallT P st f [.ptr 0 0, .c (.int .i64 n)] K := ACallT.tmut hs hk hlk ⟨⟨rfl, rfl, rfl⟩, rfl, trivial⟩ hr rfl ht
theorem ACallT.tmutL {f : FuncId} {k : IntKind} {l : List Int} {r0 : ARow} {K : AVal → St → Prop} {post : AVal → ARow → Prop} (hs : TSpec P f r0 [.ptr 0 0, .t (.ints k l)] post)
    (hk : ∀ x r', post x r' → K x ((st.killSub 0).upd 0 r')) (hlk : look st.hp 0 = some r0) (hr : rowVw st.hp [(0, .row 0)] 1 (.row 0) r0)
    (ht : tRow r0 = true := by rfl) : ACallT P st f [.ptr 0 0, .t (.ints k l)] K := ACallT.tmut hs hk hlk ⟨⟨rfl, rfl, rfl⟩, rfl, trivial⟩ hr rfl ht

theorem give_core {j e : Nat} {kd : IntKind} {l : List Int} (hr : look st.hp j = some (.ints e kd l)) (hj : j ≠ 0) (h : SRep w0 ob st a w η) {vs : List Value}
    (hvs : VReps w (fun b => ob b ∨ ownB st.hp η b) st.hp st.nx η [.ptr 0 0, .own j] vs) : VReps w (fun b => ob b ∨ ownB (st.del j).hp η b) (st.del j).hp (st.del j).nx η [.ptr 0 0, .t (.ints kd l)] vs := by
  match vs, hvs with
  | [v1, v2], ⟨h1, h2, _⟩ =>
    refine ⟨⟨h1.1, fun r hr' => h1.2 r (by simpa [St.del, look_rem_ne _ _ _ (Ne.symm hj)] using hr')⟩, ?_, trivial⟩
    have hrow := h.heap.row j _ hr
    have e2 := (h2.2 _ hr).2
    subst e2
    refine own_intsB hrow.1 (fun b hb => ?_)
    have hm : b ∈ bsOf η j (.ints e kd l) := by simp [bsOf, ARow.kind, hb]
    rintro (h3 | ⟨j', r', hj', hm'⟩)
    · exact h.free ⟨j, _, hr, hm⟩ h3
    · simp only [St.del] at hj'
      by_cases e3 : j' = j
      · subst e3; rw [look_rem] at hj'; cases hj'
      · rw [look_rem_ne _ _ _ e3] at hj'
        exact h.heap.apart j' r' j _ hj' hr e3 b hm' hm

/-- a list of the call's own is given away, read-only from here on -/
theorem ACallS.give {f : FuncId} {j e : Nat} {kd : IntKind} {l : List Int} {K : AVal → St → Prop} (h : ACallS P (st.del j) f [.ptr 0 0, .t (.ints kd l)] K)
    (hr : look st.hp j = some (.ints e kd l) := by rfl) (hj : Nat.beq j 0 = false := by rfl) : ACallS P st f [.ptr 0 0, .own j] K := by
  have hj : j ≠ 0 := fun e => by rw [e] at hj; cases hj
  exact ⟨h.fok, fun w0 ob a w η hs vs hvs => (h.run w0 ob a w η (hs.giveUp j) vs (give_core hr hj hs hvs)).mono fun e w' h => h⟩
theorem ACallT.give {f : FuncId} {j e : Nat} {kd : IntKind} {l : List Int} {K : AVal → St → Prop} (h : ACallT P (st.del j) f [.ptr 0 0, .t (.ints kd l)] K)
    (hr : look st.hp j = some (.ints e kd l) := by rfl) (hj : Nat.beq j 0 = false := by rfl) : ACallT P st f [.ptr 0 0, .own j] K := by
  have hj : j ≠ 0 := fun e => by rw [e] at hj; cases hj
  refine ⟨h.fok, fun w0 ob a w η hs vs hvs => (h.run w0 ob a w η (hs.giveUp j) vs (give_core hr hj hs hvs)).mono fun e w' h => ⟨h.1, h.2.1, fun r hr' => h.2.2 r ?_⟩⟩
  show look (rem j st.hp) 0 = some r
  rw [look_rem_ne _ _ _ (Ne.symm hj)]; exact hr'
end
end Go.Aw
/- 'x[i] = append(x[i], ..)' on rows of the call's own. -/
namespace Go.Aw
open Go.RowKit

theorem F2.set' {α β : Type} {R R' : α → β → Prop} : ∀ {l : List α} {r : List β}, F2 R l r → ∀ {i : Nat} {a : α} {b : β}, (∀ (j : Nat) (x : α) (y : β), j ≠ i → l[j]? = some x → r[j]? = some y → R x y → R' x y) → R' a b → F2 R' (l.set i a) (r.set i b)
  | [], [], _, _, _, _, _, _ => by simp [F2]
  | x :: l, y :: r, h, 0, _, _, hj, hab => ⟨hab, F2.intro (F2.length h.2) (fun j u v hu hv => by
      obtain ⟨v', hv', h'⟩ := F2.at h.2 hu
      rw [hv] at hv'; obtain rfl := Option.some.inj hv'
      exact hj (j + 1) u v (by omega) (by simpa using hu) (by simpa using hv) h')⟩
  | x :: l, y :: r, h, i + 1, _, _, hj, hab => ⟨hj 0 x y (by omega) rfl rfl h.1, F2.set' h.2 (fun j u v hne hu hv => hj (j + 1) u v (by omega) (by simpa using hu) (by simpa using hv)) hab⟩
  | [], _ :: _, h, _, _, _, _, _ => h.elim
  | _ :: _, [], h, _, _, _, _, _ => h.elim

theorem flat_set2 : ∀ {xs : List Value} {v old : Value} (i : Nat), xs[i]? = some old → (xs.flatMap blk).Nodup → (blk v).Nodup → (∀ b, b ∈ blk v → b ∈ blk old ∨ b ∉ xs.flatMap blk) →
    ((xs.set i v).flatMap blk).Nodup ∧ (∀ b, b ∈ (xs.set i v).flatMap blk → b ∈ blk v ∨ b ∈ xs.flatMap blk)
  | [], _, _, i, h, _, _, _ => by simp at h
  | x :: xs, v, old, 0, h, hn, hv, hd => by
      simp at h; subst h
      rw [List.flatMap_cons] at hn hd
      obtain ⟨n1, n2, n3⟩ := List.nodup_append.1 hn
      rw [List.set_cons_zero, List.flatMap_cons, List.flatMap_cons]
      refine ⟨List.nodup_append.2 ⟨hv, n2, fun a ha b hb e => ?_⟩, fun b hb => ?_⟩
      · subst e
        rcases hd a ha with h1 | h1
        · exact n3 a h1 a hb rfl
        · exact h1 (List.mem_append.2 (.inr hb))
      · rcases List.mem_append.1 hb with h1 | h1
        · exact .inl h1
        · exact .inr (List.mem_append.2 (.inr h1))
  | x :: xs, v, old, i + 1, h, hn, hv, hd => by
      simp at h
      rw [List.flatMap_cons] at hn hd
      obtain ⟨n1, n2, n3⟩ := List.nodup_append.1 hn
      have hold : ∀ b, b ∈ blk old → b ∈ xs.flatMap blk := fun b hb => List.mem_flatMap.2 ⟨old, List.mem_of_getElem? h, hb⟩
      obtain ⟨f1, f2⟩ := flat_set2 i h n2 hv (fun b hb => (hd b hb).imp id (fun h1 h2 => h1 (List.mem_append.2 (.inr h2))))
      rw [List.set_cons_succ, List.flatMap_cons, List.flatMap_cons]
      refine ⟨List.nodup_append.2 ⟨n1, f1, fun a ha b hb e => ?_⟩, fun b hb => ?_⟩
      · subst e
        rcases f2 a hb with h1 | h1
        · rcases hd a h1 with h2 | h2
          · exact n3 a ha a (hold a h2) rfl
          · exact h2 (List.mem_append.2 (.inl ha))
        · exact n3 a ha a h1 rfl
      · rcases List.mem_append.1 hb with h1 | h1
        · exact .inr (List.mem_append.2 (.inl h1))
        · exact (f2 b h1).imp id (fun h2 => List.mem_append.2 (.inr h2))

def aset (Γ : Tys) (st : St) (e t : Nat) (u v x c : Operand) (d1 d2 : Nat) (K : St → Prop) : Prop :=
  match look Γ t with
  | some ⟨.slice e', _, _, _⟩ => match look Γ e' with
    | some ⟨.slice _, 1, _, _⟩ => match look Γ e with
      | some ⟨.slice ei, _, _, _⟩ => match look Γ ei with
        | some ⟨_, 1, by_, [_]⟩ => match Nat.ble by_ 64 with
          | true => match ev st u with
            | some (.sub k i) => match ev st v with
              | some (.own k2) => match ev (st.put d1 .un) x with
                | some (.own k') => match ev (st.put d1 .un) c with
                  | some (.c (.int _ n)) => match look st.hp k with
                    | some (.rows e0 e1 true m) => match look st.hp k2 with
                      | some (.ints _ .i64 l2) => match Nat.beq k k' && Nat.beq e1 ei && Nat.blt d1 st.sz && Nat.blt d2 st.sz with
                        | true => n = (i : Int) ∧ i < m.length ∧ (m.getD i []).length + l2.length ≤ room ∧
                            K ((((st.put d1 .un).put d2 .un).killSub k).upd k (.rows e0 e1 true (m.set i (m.getD i [] ++ l2))))
                        | false => False
                      | _ => False
                    | _ => False
                  | _ => False
                | _ => False
              | _ => False
            | _ => False
          | false => False
        | _ => False
      | _ => False
    | _ => False
  | _ => False

section
variable {P : Program} {Γ : Tys} {w0 : Base} {w w' : World} {ob : Nat → Prop} {st : St} {a : Act} {η : Env}

theorem eval_put {d i : Nat} {v : Value} (hd : d < a.tmps.size) : (a.put (some d) v).eval (.tmp i) = if d = i then v else a.eval (.tmp i) := getD_put hd

theorem aset_sound (hΓ : TysOk P Γ) (h : SRep w0 ob st a w η) {e t e' d1 d2 : Nat} {u v x c : Operand} {K : St → Prop} (hd : d1 ≠ d2) {s1 s2 : Nat} {s3 : List Value} (ht' : look Γ t = some ⟨.slice e', s1, s2, s3⟩)
    {o1 o2 o3 : Oper} (h1 : o1.op = .call ⟨.builtin .append, #[u, v], #[e, e]⟩) (h1d : o1.dst = some d1) (h1g : o1.guard = none)
    (h2 : o2.op = .indexAddr t x c) (h2d : o2.dst = some d2) (h2g : o2.guard = none) (h3 : o3.op = .store e' (.tmp d2) (.tmp d1)) (h3d : o3.dst = none) (h3g : o3.guard = none)
    (hk : aset Γ st e t u v x c d1 d2 K) {opsA : Array Oper} {Q : Exit → Act → World → Prop} (hQ : ∀ st' a' w' η', K st' → SRep w0 ob st' a' w' η' → Q .normal a' w') : wpList P opsA Q [o1, o2, o3] a w := by
  unfold aset at hk
  rw [ht'] at hk
  simp only at hk
  split at hk
  case h_2 => exact hk.elim
  case h_1 q1 q2 q3 hte' =>
  split at hk
  case h_2 => exact hk.elim
  case h_1 ei q4 q5 q6 he =>
  split at hk
  case h_2 => exact hk.elim
  case h_1 q7 by_ zv hei =>
  split at hk
  case h_2 => exact hk.elim
  case h_1 hby =>
  split at hk
  case h_2 => exact hk.elim
  case h_1 k i hu =>
  split at hk
  case h_2 => exact hk.elim
  case h_1 k2 hv =>
  split at hk
  case h_2 => exact hk.elim
  case h_1 k' hx =>
  split at hk
  case h_2 => exact hk.elim
  case h_1 kk n hc =>
  split at hk
  case h_2 => exact hk.elim
  case h_1 e0 e1 m hr =>
  split at hk
  case h_2 => exact hk.elim
  case h_1 e2 l2 hr2 =>
  split at hk
  case h_2 => exact hk.elim
  case h_1 hcond =>
  simp only [Bool.and_eq_true] at hcond
  obtain ⟨⟨⟨c1, c2⟩, c3⟩, c4⟩ := hcond
  have c1 := Nat.eq_of_beq_eq_true c1
  have c2 := Nat.eq_of_beq_eq_true c2
  subst c1 c2
  have c3 : d1 < st.sz := Nat.le_of_ble_eq_true c3
  have c4 : d2 < st.sz := Nat.le_of_ble_eq_true c4
  obtain ⟨rfl, hi, hroom, hK⟩ := hk
  have hby' := Nat.le_of_ble_eq_true hby
  have tyt := (hΓ.at ht').desc
  have tye := (hΓ.at he).desc
  simp only [TD.is] at tyt tye
  have tyei := hΓ.at hei
  have tye' := hΓ.at hte'
  have hrow := h.heap.row k _ hr
  obtain ⟨hlt, hsub⟩ := (ev_sound h hu : VR w ob st η (.sub k i) (a.eval u))
  obtain ⟨_, hcel⟩ := hsub _ hr
  obtain ⟨li, hli, howni⟩ := F2.at' hrow.2 hcel
  have hli' : li = m.getD i [] := by simp [List.getD, hli]
  subst hli'
  obtain ⟨_, hown2⟩ := (ev_sound h hv : VR w ob st η (.own k2) (a.eval v))
  obtain ⟨_, hv2⟩ := hown2 _ hr2
  have hsrc : Src w (a.eval v) l2.length (l2.map (Value.int .i64)) := by rw [hv2]; exact Src.own (h.heap.row k2 _ hr2).1
  obtain ⟨v', w', hrun, hown', hfr, hsz, hsame, hB, hnd'⟩ := run_append_fresh (ty := o1.type) tye tyei rfl hby' rfl howni hsrc (fun y hy => by obtain ⟨_, _, rfl⟩ := List.mem_map.1 hy; rfl) hroom (wB h)
  have hs1 : SRep w0 ob (st.put d1 .un) (a.put (some d1) v') w η := h.put c3 (x := .un) trivial
  have hsz1 : d1 < a.tmps.size := by rw [h.size]; exact c3
  obtain ⟨_, hownx⟩ := (ev_sound hs1 hx : VR w ob (st.put d1 .un) η (.own k) _)
  obtain ⟨_, hxv⟩ := hownx _ hr
  obtain ⟨hcv, _⟩ := (ev_sound hs1 hc : VR w ob (st.put d1 .un) η (.c (.int kk i)) _)
  obtain ⟨ba, cp, hval⟩ := len_own hrow.1
  have hlen := F2.length hrow.2
  obtain ⟨g, rfl, hg0⟩ : ∃ g, ba = some ⟨g, 0, none⟩ ∧ True := by
    rcases hrow.1.2 with ⟨h0, h0'⟩ | ⟨g, cap, cur, h0, _⟩
    · omega
    · rw [hval] at h0; cases h0; exact ⟨g, rfl, trivial⟩
  have hbk : blk (η.val k) = [g] := by rw [hval]; rfl
  have hbs : bsOf η k (.rows e0 e1 true m) = blk (η.val k) ++ (η.cel k).flatMap blk := by simp [bsOf, ARow.kind]
  have hnod := h.heap.nodup k _ hr
  rw [hbs, hbk] at hnod
  obtain ⟨n1, n2, n3⟩ := List.nodup_append.1 hnod
  have hsubm : ∀ b, b ∈ blk (a.eval u) → b ∈ (η.cel k).flatMap blk := fun b hb => List.mem_flatMap.2 ⟨_, List.mem_of_getElem? hcel, hb⟩
  have hgu : g ∉ blk (a.eval u) := fun hb => n3 g (by simp) g (hsubm g hb) rfl
  have hblt : ∀ b, b ∈ bsOf η k (.rows e0 e1 true m) → b < w.heap.size := fun b hb => (RowRep.lt hrow b hb).2
  have hg : g < w.heap.size := hblt g (by rw [hbs, hbk]; simp)
  have hown1 : w'.ownsRow w0.B e0 1 (η.val k) m.length (η.cel k) := ownsRow_same hrow.1 (fun b hb => by
    rw [hbk] at hb; obtain rfl := List.mem_singleton.1 hb
    exact hsame b hg hgu)
  obtain ⟨cur, hg1, ho, hBg, hown3⟩ := own_set hown1 hbk hi v'
  obtain ⟨vb, vc, hvv⟩ := len_own hown'
  have hcellv : v'.cells = [v'].toArray ∧ v'.oneCell' = true := by rw [hvv]; exact ⟨rfl, rfl⟩
  have hst := run_storeAt (P := P) tye' (us := [v']) hcellv.1 rfl (by simp [hcellv.2]) hg1 ho
  let p : Value := .pointer (some ⟨g, 0 + i, none⟩)
  have hs2 : SRep w0 ob ((st.put d1 .un).put d2 .un) ((a.put (some d1) v').put (some d2) p) w η := hs1.put c4 (x := .un) trivial
  have hsz2 : d2 < (a.put (some d1) v').tmps.size := by rw [hs1.size]; exact c4
  let w2 := w'.setRow g (cur.toList.take i ++ [v'] ++ cur.toList.drop (i + 1)).toArray
  have hB2 : Below w0.B w w2 := hB.trans (below_setRow hBg _)
  have hfresh : ∀ b, b ∈ blk v' → b ∈ blk (a.eval u) ∨ b ∉ (η.cel k).flatMap blk := fun b hb => (hfr b hb).imp id (fun e hm => by
    have := hblt b (by rw [hbs]; exact List.mem_append.2 (.inr hm)); omega)
  obtain ⟨f1, f2⟩ := flat_set2 i hcel n2 hnd' hfresh
  have hgv : g ∉ blk v' := fun hb => by
    rcases hfr g hb with h1 | h1
    · exact hgu h1
    · omega
  have hbs' : bsOf (η.upd k (η.val k) ((η.cel k).set i v')) k (.rows e0 e1 true (m.set i (m.getD i [] ++ l2))) = blk (η.val k) ++ ((η.cel k).set i v').flatMap blk := by simp [bsOf, ARow.kind, upd_val, upd_cel]
  have hfin := SRep.mutT (w' := w2) (r' := .rows e0 e1 true (m.set i (m.getD i [] ++ l2))) (cs' := (η.cel k).set i v') hs2 hr rfl (by simp)
    (fun b hb hn => by
      rw [hbs, hbk] at hn
      have e1 : b ≠ g := fun e => hn (by rw [e]; simp)
      show (w'.setRow g _).heap[b]? = _
      rw [setRow_other w' g b _ e1]
      exact hsame b hb (fun hm => hn (List.mem_append.2 (.inr (hsubm b hm))))) hB2
    (by
      rw [hbs', hbk]
      refine List.nodup_append.2 ⟨n1, f1, fun b hb1 b' hb' e => ?_⟩
      subst e
      obtain rfl := List.mem_singleton.1 hb1
      rcases f2 b hb' with h2 | h2
      · exact hgv h2
      · exact n3 b (by simp) b h2 rfl)
    (fun b hb => by
      rw [hbs'] at hb
      rcases List.mem_append.1 hb with h2 | h2
      · exact .inl (by rw [hbs]; exact List.mem_append.2 (.inl h2))
      · rcases f2 b h2 with h3 | h3
        · rcases hfr b h3 with h4 | h4
          · exact .inl (by rw [hbs]; exact List.mem_append.2 (.inr (hsubm b h4)))
          · exact .inr (by omega)
        · exact .inl (by rw [hbs]; exact List.mem_append.2 (.inr h3)))
    (by
      refine ⟨?_, ?_⟩
      · rw [upd_val, upd_cel, List.length_set]; exact hown3
      · rw [upd_cel]
        refine F2.set' hrow.2 (fun j l1 y hne hl1 hy ho1 => ?_) ?_
        · have hap := flat_apart n2 hy hcel hne
          refine own_other (ownsRow_same ho1 (fun b hb => ?_)) (fun hb => n3 g (by simp) g (List.mem_flatMap.2 ⟨y, List.mem_of_getElem? hy, hb⟩) rfl) _
          exact hsame b (hblt b (by rw [hbs]; exact List.mem_append.2 (.inr (List.mem_flatMap.2 ⟨y, List.mem_of_getElem? hy, hb⟩)))) (hap b hb)
        · refine own_other ?_ hgv _
          simp only [List.length_append, List.map_append]
          exact hown')
  have r1 : (execOp a.eval o1).run P w = .ok (.value v') w' := by simp [execOp, h1, resolve, invoke, builtin, hrun]
  have r2 : (execOp (a.put (some d1) v').eval o2).run P w' = .ok (.value p) w' := by
    simp only [execOp, h2, hxv, hcv, hval]
    simp [run_idx_sl tyt tye' rfl hi w', p]
  have r3 : (execOp ((a.put (some d1) v').put (some d2) p).eval o3).run P w' = .ok .skip w2 := by
    refine ANStore h3 ?_
    rw [eval_put hsz2, if_pos rfl, eval_put hsz2, if_neg (Ne.symm hd), eval_put hsz1, if_pos rfl]
    simp only [p, Nat.zero_add]
    exact hst
  unfold wpList
  rw [if_pos (by simp [Region.wanted, h1g])]
  refine .inl ?_
  unfold Oper.wp
  rw [r1, Oper.upon_value, h1d]
  unfold wpList
  rw [if_pos (by simp [Region.wanted, h2g])]
  refine .inl ?_
  unfold Oper.wp
  rw [r2, Oper.upon_value, h2d]
  unfold wpList
  rw [if_pos (by simp [Region.wanted, h3g])]
  refine .inl ?_
  unfold Oper.wp
  rw [r3, Oper.upon_skip, h3d]
  unfold wpList
  exact hQ _ _ _ _ hK hfin

theorem ASet.app (hΓ : TysOk P Γ) {ops : Array Oper} {p1 p2 p3 p4 p5 o1 o2 o3 : Oper} {e t e' d1 d2 s1 s2 : Nat} {s3 : List Value} {u v x c : Operand} {K : St → Prop}
    (hops : ops.toList = [p1, p2, p3, p4, p5, o1, o2, o3])
    (h1 : o1.op = .call ⟨.builtin .append, #[u, v], #[e, e]⟩) (h1d : o1.dst = some d1) (h1g : o1.guard = none)
    (h2 : o2.op = .indexAddr t x c) (h2d : o2.dst = some d2) (h2g : o2.guard = none) (h3 : o3.op = .store e' (.tmp d2) (.tmp d1)) (h3d : o3.dst = none) (h3g : o3.guard = none)
    (ht' : look Γ t = some ⟨.slice e', s1, s2, s3⟩) (hd : Nat.beq d1 d2 = false)
    (hk : alist P Γ ops.toList [p1, p2, p3, p4, p5] st [] (fun st1 => aset Γ st1 e t u v x c d1 d2 K)) : ASet P ops st K := by
  refine ⟨fun id w0 ob a w ⟨η, h⟩ => wp_region_list ?_⟩
  have nodec : DecOk [] a := fun d b hd => by simp [look] at hd
  have hne : d1 ≠ d2 := fun e => by rw [e, Nat.beq_refl] at hd; cases hd
  have := alist_soundR (P := P) hΓ (opsA := ops) (Q := fun e a' w' => e = .normal ∧ ∃ st', K st' ∧ StRep w0 ob st' a' w') [o1, o2, o3] (fun st1 a1 w1 η1 hk1 hs1 =>
    aset_sound hΓ hs1 hne ht' h1 h1d h1g h2 h2d h2g h3 h3d h3g hk1 (fun st' a' w' η' hK hs' => ⟨rfl, st', hK, η', hs'⟩)) [p1, p2, p3, p4, p5] st [] a w η h nodec hk
  rw [hops]
  exact this

/-- .. of which all orders come to states that an index tells -/
theorem ADraw.midI {ι : Type} {ops : Array Oper} {K : St → Prop} (mid : ι → St) (I : ι → Prop) (h : ADraw P ops st (fun st1 => ∃ i o, Seen o st1 (mid i) ∧ I i)) (hk : ∀ i, I i → K (mid i)) : ADraw P ops st K :=
  ⟨fun id w0 ob a w hr => wp_mono (h.run id w0 ob a w hr) (fun _ _ _ ⟨he, _, ⟨i, _, hv, hi⟩, ⟨_, hs⟩⟩ => ⟨he, mid i, hk i hi, _, hv.rep hs⟩)⟩
end
end Go.Aw
/- The cursor of the draws: next, pick, one. -/
namespace Go.Proofs.YtkjdplglenjijaaGreat
open Go.Aw
set_option maxRecDepth 100000

def OkB (l : List Int) : Prop := l.length ≤ 9223372036854775807 ∧ ∀ x, x ∈ l → 0 ≤ x ∧ x ≤ 255
abbrev cur (code : List Int) (a : Nat) (s : Int) : ARow := .cells 45 [.t (.ints .u8 code), .c (.int .i64 (a)), .c (.int .u64 s)]

theorem W_inr (n : Int) : InR (W n) := by
  unfold InR
  show _ ≤ IntKind.i64.wrap n ∧ IntKind.i64.wrap n ≤ _
  rw [IntKind.wrap_i64]; omega
theorem among_in {l : List Int} {lo hi : Int} {i : Nat} (h : rowIn l lo hi = true) (hl : i < l.length) : lo ≤ l.getD i 0 ∧ l.getD i 0 ≤ hi := by
  simp only [rowIn, inR, List.all_eq_true, decide_eq_true_eq] at h
  exact h _ (getD_mem hl)
theorem and255 (x : Int) : 0 ≤ IntKind.i64.wrap (bits .and .u64 x 255) ∧ IntKind.i64.wrap (bits .and .u64 x 255) ≤ 255 := by
  have h : bits .and .u64 x 255 = IntKind.u64.wrap ((BitVec.ofInt 64 x &&& BitVec.ofInt 64 255).toNat : Int) := rfl
  have h2 : (BitVec.ofInt 64 x &&& BitVec.ofInt 64 255).toNat ≤ 255 := by
    rw [BitVec.toNat_and]
    exact Nat.le_trans Nat.and_le_right (by decide)
  rw [h]
  generalize (BitVec.ofInt 64 x &&& BitVec.ofInt 64 255).toNat = n at h2
  rw [IntKind.wrap_u64, IntKind.wrap_i64]
  omega

theorem tmod_bd {a n : Int} (ha : 0 ≤ a) (hn : 0 < n) : 0 ≤ Int.tmod a n ∧ Int.tmod a n < n := by
  rw [Int.tmod_eq_emod_of_nonneg ha]
  exact ⟨Int.emod_nonneg _ (by omega), Int.emod_lt_of_pos _ hn⟩

theorem next_spec (code : List Int) (hc : OkB code) (a : Nat) (s : Int) (ha : a ≤ 1000000000) :
    TSpec Tryz.prog 105 (cur code a s) [.ptr 0 0] (fun v r => ∃ x s' : Int, v = .c (.int .i64 x) ∧ 0 ≤ x ∧ x ≤ 255 ∧ r = cur code (a + 1) s') := by
  refine tspec tyOk mx Tryz.func105 rfl (by kernel_rfl) rfl rfl ?_
  conv => whnf
  refine ADraw.std tyOk mx ⟨by kernel_rfl, ?_⟩
  conv => whnf
  refine ⟨fun h => ?_, fun h => ?_⟩
  · have h := ltT h
    have hb := hc.2 _ (getD_mem (d := 0) h)
    conv => whnf
    refine ADraw.std tyOk mx ⟨by kernel_rfl, ?_⟩
    conv => whnf
    refine ⟨a, rfl, h, ?_⟩
    conv => whnf
    rw [nat_wrap (by omega)]
    generalize IntKind.u64.wrap (IntKind.u64.wrap (IntKind.u64.wrap (s * 6364136223846793005) + IntKind.u64.wrap (IntKind.i64.wrap (code.getD a 0))) + 462197) = s'
    refine ADraw.std tyOk mx ⟨by kernel_rfl, ?_⟩
    conv => whnf
    refine ⟨fun h1 => ?_, fun h1 => ?_⟩
    · conv => whnf
      have e : IntKind.i64.wrap (code.getD a 0) = code.getD a 0 := w64 (by omega) (by omega)
      exact ⟨_, s', rfl, by omega, by omega, rfl⟩
    · exact absurd (of_decide_eq_false h1) (by omega)
  · have h := ltF h
    conv => whnf
    rw [nat_wrap (by omega)]
    generalize IntKind.u64.wrap (IntKind.u64.wrap (IntKind.u64.wrap (s * 6364136223846793005) + IntKind.u64.wrap 0) + 462197) = s'
    refine ADraw.std tyOk mx ⟨by kernel_rfl, ?_⟩
    conv => whnf
    refine ⟨fun h1 => ?_, fun h1 => ?_⟩
    · exact absurd (of_decide_eq_true h1) (by omega)
    · conv => whnf
      refine ⟨by omega, ?_⟩
      conv => whnf
      have e := and255 (shr IntKind.u64 s' 40)
      exact ⟨_, s', rfl, e.1, e.2, rfl⟩

theorem l1OwnC_spec (l : List Int) (hl : l.length ≤ 1048576) : FSpec Tryz.prog 103 [.t (.ints .i64 l)] (ex (.own 0) [(0, .ints 3 .i64 l)]) := by
  refine fspec tyOk mx Tryz.func103 rfl (by kernel_rfl) rfl ?_
  conv => whnf
  refine ⟨by simp [room]; omega, ?_⟩
  conv => whnf
  exact ⟨rfl, rfl⟩

/-- what a draw tells: a number in bounds, and the cursor moved on a little -/
def drawn (code : List Int) (a k : Nat) (lo hi : Int) (v : AVal) (r : ARow) : Prop :=
  ∃ (x : Int) (a' : Nat) (s' : Int), v = .c (.int .i64 x) ∧ lo ≤ x ∧ x < hi ∧ a ≤ a' ∧ a' ≤ a + k ∧ r = cur code a' s'

theorem pick_spec (code : List Int) (hc : OkB code) (a : Nat) (s : Int) (ha : a ≤ 900000000) (n : Int) (h0 : -1000 ≤ n) (h1 : n ≤ 65536) :
    TSpec Tryz.prog 78 (cur code a s) [.ptr 0 0, .c (.int .i64 (n))] (drawn code a 2 0 (max n 1)) := by
  refine tspec tyOk mx Tryz.func78 rfl (by kernel_rfl) rfl rfl ?_
  conv => whnf
  refine ⟨fun h => ?_, fun h => ?_⟩
  · have h := of_decide_eq_true h
    conv => whnf
    exact ⟨0, a, s, rfl, by omega, by omega, by omega, by omega, rfl⟩
  · have h := of_decide_eq_false h
    conv => whnf
    refine ACallS.tmut 0 (next_spec code hc a s (by omega)) ?_ rfl (by (repeat' (first | exact trivial | exact rfl | refine And.intro ?_ ?_)) <;> (try first | omega | (simp; done))) (by (repeat' (first | exact trivial | exact rfl | refine And.intro ?_ ?_)) <;> (try first | omega | (simp; done)))
    rintro v r ⟨x, s1, rfl, x0, x1, rfl⟩
    conv => whnf
    refine ⟨fun h2 => ?_, fun h2 => ?_⟩
    · have h2 := of_decide_eq_true h2
      conv => whnf
      refine ACallS.tmut 0 (next_spec code hc (a + 1) s1 (by omega)) ?_ rfl (by (repeat' (first | exact trivial | exact rfl | refine And.intro ?_ ?_)) <;> (try first | omega | (simp; done))) (by (repeat' (first | exact trivial | exact rfl | refine And.intro ?_ ?_)) <;> (try first | omega | (simp; done)))
      rintro v r ⟨y, s2, rfl, y0, y1, rfl⟩
      conv => whnf
      refine ⟨by omega, ?_⟩
      conv => whnf
      have e1 : IntKind.i64.wrap (x * 256) = x * 256 := w64 (by omega) (by omega)
      have e2 : IntKind.i64.wrap (x * 256 + y) = x * 256 + y := w64 (by omega) (by omega)
      rw [e1, e2]
      have hz := tmod_bd (a := x * 256 + y) (n := n) (by omega) (by omega)
      refine ⟨_, a + 2, s2, rfl, ?_, ?_, by omega, by omega, rfl⟩
      · omega
      · omega
    · have h2 := of_decide_eq_false h2
      conv => whnf
      refine ⟨by omega, ?_⟩
      conv => whnf
      have hz := tmod_bd (a := x) (n := n) (by omega) (by omega)
      refine ⟨_, a + 1, s1, rfl, ?_, ?_, by omega, by omega, rfl⟩
      · omega
      · omega

def drawnB (code : List Int) (a k : Nat) (v : AVal) (r : ARow) : Prop := ∃ (x : Bool) (a' : Nat) (s' : Int), v = .c (.bool x) ∧ a ≤ a' ∧ a' ≤ a + k ∧ r = cur code a' s'
theorem one_spec (code : List Int) (hc : OkB code) (a : Nat) (s : Int) (ha : a ≤ 900000000) (n : Int) (h0 : -1000 ≤ n) (h1 : n ≤ 65536) :
    TSpec Tryz.prog 36 (cur code a s) [.ptr 0 0, .c (.int .i64 (n))] (drawnB code a 2) := by
  refine tspec tyOk mx Tryz.func36 rfl (by kernel_rfl) rfl rfl ?_
  conv => whnf
  refine ACallS.tmut 0 (pick_spec code hc a s ha n h0 h1) ?_ rfl (by (repeat' (first | exact trivial | exact rfl | refine And.intro ?_ ?_)) <;> (try first | omega | (simp; done))) (by (repeat' (first | exact trivial | exact rfl | refine And.intro ?_ ?_)) <;> (try first | omega | (simp; done)))
  rintro v r ⟨x, a1, s1, rfl, x0, x1, e1, e2, rfl⟩
  conv => whnf
  exact ⟨_, a1, s1, rfl, e1, e2, rfl⟩
end Go.Proofs.YtkjdplglenjijaaGreat
/- Draws of numbers of a list, of sizes. -/
namespace Go.Proofs.YtkjdplglenjijaaGreat
open Go.Aw
set_option maxRecDepth 100000

theorem l1MostC_spec (x y : Int) : FSpec Tryz.prog 70 [.c (.int .i64 (x)), .c (.int .i64 (y))] (ex (.c (.int .i64 (if x < y then y else x))) []) := by
  refine fspec tyOk mx Tryz.func70 rfl (by kernel_rfl) rfl ?_
  conv => whnf
  refine ⟨fun h => ?_, fun h => ?_⟩
  · have h := of_decide_eq_true h
    conv => whnf
    exact ⟨by first | rw [if_pos h] | rw [if_neg (by omega)], rfl⟩
  · have h := of_decide_eq_false h
    conv => whnf
    exact ⟨by first | rw [if_neg h] | (split <;> (first | rfl | (congr 2; omega))), rfl⟩
theorem l1LeastC_spec (x y : Int) : FSpec Tryz.prog 77 [.c (.int .i64 (x)), .c (.int .i64 (y))] (ex (.c (.int .i64 (if x < y then x else y))) []) := by
  refine fspec tyOk mx Tryz.func77 rfl (by kernel_rfl) rfl ?_
  conv => whnf
  refine ⟨fun h => ?_, fun h => ?_⟩
  · have h := of_decide_eq_true h
    conv => whnf
    exact ⟨by first | rw [if_pos h] | rw [if_neg (by omega)], rfl⟩
  · have h := of_decide_eq_false h
    conv => whnf
    exact ⟨by first | rw [if_neg h] | (split <;> (first | rfl | (congr 2; omega))), rfl⟩

/-- one of a list -/
def drawnC (code : List Int) (a : Nat) (lo hi : Int) (v : AVal) (r : ARow) : Prop :=
  ∃ (x : Int) (a' : Nat) (s' : Int), v = .c (.int .i64 x) ∧ lo ≤ x ∧ x ≤ hi ∧ a ≤ a' ∧ a' ≤ a + 2 ∧ r = cur code a' s'
theorem among_spec (code : List Int) (hc : OkB code) (a : Nat) (s : Int) (ha : a ≤ 900000000) (l : List Int) (hl : (Nat.ble 1 l.length && Nat.ble l.length 65536) = true) (lo hi : Int) (hin : rowIn l lo hi = true) :
    TSpec Tryz.prog 79 (cur code a s) [.ptr 0 0, .t (.ints .i64 l)] (drawnC code a lo hi) := by
  simp only [Bool.and_eq_true, Nat.ble_eq] at hl
  refine tspec tyOk mx Tryz.func79 rfl (by kernel_rfl) rfl rfl ?_
  conv => whnf
  refine ACallS.tmut 0 (pick_spec code hc a s ha l.length (by omega) (by omega)) ?_ rfl (by (repeat' (first | exact trivial | exact rfl | refine And.intro ?_ ?_)) <;> (try first | omega | (simp; done))) (by (repeat' (first | exact trivial | exact rfl | refine And.intro ?_ ?_)) <;> (try first | omega | (simp; done)))
  rintro v r ⟨x, a1, s1, rfl, x0, x1, e1, g1, rfl⟩
  conv => whnf
  obtain ⟨i, rfl, hi⟩ := nat_of (len := l.length) x0 (by omega)
  refine ⟨i, rfl, hi, ?_⟩
  conv => whnf
  have h := among_in hin hi
  exact ⟨_, a1, s1, rfl, h.1, h.2, e1, g1, rfl⟩

def near (x : Int) : Nat := (if x < 0 then 0 else if x < 4 then x else 4).toNat
theorem near_le (x : Int) : near x ≤ 4 := by unfold near; omega
theorem l2Near_spec (x : Int) : FSpec Tryz.prog 81 [.c (.int .i64 (x))] (ex (.c (.int .i64 (near x))) []) := by
  refine fspec tyOk mx Tryz.func81 rfl (by kernel_rfl) rfl ?_
  conv => whnf
  refine ACall.use (l1MostC_spec _ _) ?_
  conv => whnf
  refine ACall.use (l1LeastC_spec _ _) ?_
  conv => whnf
  refine ⟨?_, rfl⟩
  have e : (if (if x < 0 then 0 else x) < 4 then (if x < 0 then 0 else x) else 4) = (near x : Int) := by unfold near; omega
  rw [e]

/-- a drawn pair of numbers of questions -/
def drawn2 (code : List Int) (a k : Nat) (v : AVal) (r : ARow) : Prop :=
  ∃ (x y : Int) (a' : Nat) (s' : Int), v = .tu [.c (.int .i64 x), .c (.int .i64 y)] ∧ InR x ∧ InR y ∧ a ≤ a' ∧ a' ≤ a + k ∧ r = cur code a' s'

theorem sizes_spec (code : List Int) (hc : OkB code) (a : Nat) (s : Int) (ha : a ≤ 800000000) :
    TSpec Tryz.prog 73 (cur code a s) [.ptr 0 0] (drawn2 code a 8) := by
  refine tspec tyOk mx Tryz.func73 rfl (by kernel_rfl) rfl rfl ?_
  conv => whnf
  refine ACallS.tmut 0 (one_spec code hc a s (by omega) 2 (by omega) (by omega)) ?_ rfl (by (repeat' (first | exact trivial | exact rfl | refine And.intro ?_ ?_)) <;> (try first | omega | (simp; done))) (by (repeat' (first | exact trivial | exact rfl | refine And.intro ?_ ?_)) <;> (try first | omega | (simp; done)))
  rintro v r ⟨b1, a1, s1, rfl, e_a1, g_a1, rfl⟩
  conv => whnf
  refine ⟨fun h1 => ?_, fun h1 => ?_⟩
  · conv => whnf
    exact ⟨2, 2, a1, s1, rfl, by unfold InR; omega, by unfold InR; omega, by omega, by omega, rfl⟩
  · conv => whnf
    refine ACallS.tmut 0 (one_spec code hc a1 s1 (by omega) 24 (by omega) (by omega)) ?_ rfl (by (repeat' (first | exact trivial | exact rfl | refine And.intro ?_ ?_)) <;> (try first | omega | (simp; done))) (by (repeat' (first | exact trivial | exact rfl | refine And.intro ?_ ?_)) <;> (try first | omega | (simp; done)))
    rintro v r ⟨b2, a2, s2, rfl, e_a2, g_a2, rfl⟩
    conv => whnf
    refine ⟨fun h2 => ?_, fun h2 => ?_⟩
    · conv => whnf
      refine ACallS.inline tyOk mx Tryz.func79 rfl (by kernel_rfl) rfl ?_
      conv => whnf
      refine ACallS.tmut 0 (pick_spec code hc a2 s2 (by omega) 4 (by omega) (by omega)) ?_ rfl (by (repeat' (first | exact trivial | exact rfl | refine And.intro ?_ ?_)) <;> (try first | omega | (simp; done))) (by (repeat' (first | exact trivial | exact rfl | refine And.intro ?_ ?_)) <;> (try first | omega | (simp; done)))
      rintro v r ⟨y, a3, s3, rfl, y0, y1, e_a3, g_a3, rfl⟩
      conv => whnf
      obtain ⟨i, rfl, hi⟩ := nat_of (len := 4) y0 (by omega)
      refine ⟨i, rfl, hi, ?_⟩
      conv => whnf
      have h_x : -1 ≤ (((((List.replicate 4 (0 : Int)).set 0 0).set 1 4).set 2 (-1)).set 3 2).getD i 0 ∧ (((((List.replicate 4 (0 : Int)).set 0 0).set 1 4).set 2 (-1)).set 3 2).getD i 0 ≤ 4 := among_in (by kernel_rfl) hi
      generalize (((((List.replicate 4 (0 : Int)).set 0 0).set 1 4).set 2 (-1)).set 3 2).getD i 0 = x at h_x ⊢
      refine ⟨rfl, ?_⟩
      conv => whnf
      clear y0 y1 hi
      refine ACallS.inline tyOk mx Tryz.func79 rfl (by kernel_rfl) rfl ?_
      conv => whnf
      refine ACallS.tmut 0 (pick_spec code hc a3 s3 (by omega) 4 (by omega) (by omega)) ?_ rfl (by (repeat' (first | exact trivial | exact rfl | refine And.intro ?_ ?_)) <;> (try first | omega | (simp; done))) (by (repeat' (first | exact trivial | exact rfl | refine And.intro ?_ ?_)) <;> (try first | omega | (simp; done)))
      rintro v r ⟨y, a4, s4, rfl, y0, y1, e_a4, g_a4, rfl⟩
      conv => whnf
      obtain ⟨i, rfl, hi⟩ := nat_of (len := 4) y0 (by omega)
      refine ⟨i, rfl, hi, ?_⟩
      conv => whnf
      have h_y : 0 ≤ (((((List.replicate 4 (0 : Int)).set 0 0).set 1 4).set 2 2).set 3 4611686018427387904).getD i 0 ∧ (((((List.replicate 4 (0 : Int)).set 0 0).set 1 4).set 2 2).set 3 4611686018427387904).getD i 0 ≤ 4611686018427387904 := among_in (by kernel_rfl) hi
      generalize (((((List.replicate 4 (0 : Int)).set 0 0).set 1 4).set 2 2).set 3 4611686018427387904).getD i 0 = y at h_y ⊢
      refine ⟨rfl, ?_⟩
      conv => whnf
      clear y0 y1 hi
      exact ⟨x, y, a4, s4, rfl, by unfold InR; omega, by unfold InR; omega, by omega, by omega, rfl⟩
    · conv => whnf
      refine ACallS.tmut 0 (pick_spec code hc a2 s2 (by omega) 3 (by omega) (by omega)) ?_ rfl (by (repeat' (first | exact trivial | exact rfl | refine And.intro ?_ ?_)) <;> (try first | omega | (simp; done))) (by (repeat' (first | exact trivial | exact rfl | refine And.intro ?_ ?_)) <;> (try first | omega | (simp; done)))
      rintro v r ⟨x, a3, s3, rfl, l_x, u_x, e_a3, g_a3, rfl⟩
      conv => whnf
      refine ACallS.tmut 0 (pick_spec code hc a3 s3 (by omega) 3 (by omega) (by omega)) ?_ rfl (by (repeat' (first | exact trivial | exact rfl | refine And.intro ?_ ?_)) <;> (try first | omega | (simp; done))) (by (repeat' (first | exact trivial | exact rfl | refine And.intro ?_ ?_)) <;> (try first | omega | (simp; done)))
      rintro v r ⟨y, a4, s4, rfl, l_y, u_y, e_a4, g_a4, rfl⟩
      conv => whnf
      exact ⟨_, _, a4, s4, rfl, W_inr _, W_inr _, by omega, by omega, rfl⟩

end Go.Proofs.YtkjdplglenjijaaGreat
/- Calls that write a variable of their caller, and hand back rows that are new. -/
namespace Go.Aw
open Go.RowKit

/-- A FUNCTION THAT WRITES A VARIABLE OF ITS CALLER (key 0) AND HANDS BACK ROWS OF ITS OWN -/
def OSpec (P : Program) (f : FuncId) (r0 : ARow) (args : List AVal) (post : AVal → List (Nat × ARow) → ARow → Prop) : Prop := FOk P f ∧
  ∀ (w : World) (B : Nat) (ob : Nat → Prop) (η : Env) (vs : List Value), B ≤ w.heap.size → (∀ b, ob b → b < w.heap.size) → (∀ b, b ∈ bsOf η 0 r0 → ¬ ob b) →
    HRep w B ob [(0, r0)] 1 η → VReps w (badOf ob [(0, r0)] η) [(0, r0)] 1 η args vs →
    Calls P f vs.toArray w fun e w' => ∃ v x h ηh r' η', e = .returned v ∧ post x h r' ∧ noSh x = true ∧ rowsOwn h = true ∧ HRep w' w.heap.size (fun _ => False) h h.length ηh ∧
      VRep w' (fun b => False ∨ ownB h ηh b) h h.length ηh x v ∧ Below B w w' ∧
      (∀ b, b < w.heap.size → b ∉ bsOf η 0 r0 → w'.heap[b]? = w.heap[b]?) ∧ tRow r' = true ∧ RowRep w' B (fun b => badOf ob [(0, r')] η' b ∨ ownB h ηh b) [(0, r')] 1 η' 0 r' ∧ (bsOf η' 0 r').Nodup ∧
      r'.kind = r0.kind ∧ η'.val 0 = η.val 0 ∧ (η'.cel 0).length = (η.cel 0).length

def ofin (sz : Nat) (r0 : ARow) (post : AVal → List (Nat × ARow) → ARow → Prop) (st : St) (l : List AVal) : Prop :=
  match look st.sl sz with
  | some g => match look st.hp 0 with
    | some r' => match Nat.beq r'.kind r0.kind && isGhost r' g && tRow r' && sameLen r0 r' && Nat.beq st.sz sz with
      | true => afin st (resx l) fun x h => match noSh x && rowsOwn h with | true => post x h r' | false => False
      | false => False
    | none => False
  | none => False

def oend (Γ : Tys) (rs : List ResultVar) (sz : Nat) (r0 : ARow) (post : AVal → List (Nat × ARow) → ARow → Prop) : Exit → St → Prop
  | .ret, st => ares Γ st rs (ofin sz r0 post st)
  | .normal, st => ares Γ st rs (ofin sz r0 post st)
  | _, _ => False

section
variable {P : Program} {Γ : Tys} {w0 : Base} {w w' : World} {ob : Nat → Prop} {st : St} {a : Act} {η : Env}

theorem ownsRow_raise {B B1 e n : Nat} {v : Value} {len : Nat} {xs : List Value} (h : w.ownsRow B e n v len xs) (hb : ∀ b, b ∈ blk v → B1 ≤ b) : w.ownsRow B1 e n v len xs := by
  refine ⟨h.1, ?_⟩
  rcases h.2 with h2 | ⟨g, cap, cur, h1, hg, h3⟩
  · exact .inl h2
  · exact .inr ⟨g, cap, cur, h1, hb g (by rw [h1]; simp [blk]), h3⟩

theorem HRep.raise {B B1 : Nat} {hp : List (Nat × ARow)} {nx : Nat} (h : HRep w B ob hp nx η) (ho : rowsOwn hp = true) (hb : ∀ b, ownB hp η b → B1 ≤ b) : HRep w B1 ob hp nx η := by
  refine ⟨fun k r hr => ?_, h.nodup, h.apart, h.lt⟩
  have hrow := h.row k r hr
  have hbk : ∀ b, b ∈ bsOf η k r → B1 ≤ b := fun b hm => hb b ⟨k, r, hr, hm⟩
  match r, rowsOwn_at ho k r hr, hbk, hrow with
  | .ints e kd l, _, hbk, hrow => exact ⟨ownsRow_raise hrow.1 (fun b hm => hbk b (by simpa [bsOf, ARow.kind] using hm)), hrow.2⟩
  | .rows e e1 true m, _, hbk, hrow =>
    refine ⟨ownsRow_raise hrow.1 (fun b hm => hbk b (by simp [bsOf, ARow.kind, hm])), ?_⟩
    refine F2.intro (F2.length hrow.2) (fun i l u hl hu => ?_)
    obtain ⟨u', hu', h'⟩ := F2.at hrow.2 hl
    rw [hu] at hu'
    obtain rfl := Option.some.inj hu'
    exact ownsRow_raise h' (fun b hm => hbk b (by
      simp only [bsOf, ARow.kind, if_true]
      exact List.mem_append.2 (.inr (List.mem_flatMap.2 ⟨u, List.mem_of_getElem? hu, hm⟩))))
  | .rows _ _ false _, hk, _, _ => simp [ARow.kind] at hk
  | .cells .., hk, _, _ => simp [ARow.kind] at hk
  | .recs .., hk, _, _ => simp [ARow.kind] at hk
theorem ospec (hΓ : TysOk P Γ) (hm : P.follows .mixedOrders = true) {f : FuncId} {fn : Func} {c : Code} {r0 : ARow} {args : List AVal} {post : AVal → List (Nat × ARow) → ARow → Prop} (hf : P.funcs[f]? = some fn) (hb : fn.body = some c)
    (hname : (fn.name == "runtime.NumGoroutine") = false) (hn : Nat.ble args.length fn.ntmps = true) (hg : tRow r0 = true)
    (h : acode P Γ c ⟨fn.ntmps, (fn.ntmps, ghostOf r0) :: initSl 0 args, [(0, r0)], 1⟩ (oend Γ fn.results.toList fn.ntmps r0 post)) : OSpec P f r0 args post := by
  refine ⟨⟨fn, hf, hname, by rw [hb]; rfl⟩, fun w B ob η vs hB hobl hfree hh hvs => ?_⟩
  refine calls_of_wp hf hb ?_
  have hle := Nat.le_of_ble_eq_true hn
  have hlen := VReps.length hvs
  have hr0 : look [(0, r0)] 0 = some r0 := rfl
  have hrow0 := hh.row 0 r0 hr0
  have hone : ∀ k r, look [(0, r0)] k = some r → k = 0 ∧ r = r0 := fun k r hk => by
    rw [look_cons] at hk
    split at hk
    · rename_i h0; exact ⟨h0.symm, (Option.some.inj hk).symm⟩
    · cases hk
  let γ : Nat → Value := fun i => if i = fn.ntmps then η.val 0 else undef
  let W0 : Base := ⟨w, B, fun b => b ∈ bsOf η 0 r0, γ⟩
  have hs : SRep W0 ob ⟨fn.ntmps, (fn.ntmps, ghostOf r0) :: initSl 0 args, [(0, r0)], 1⟩ { tmps := vs.toArray ++ Array.replicate (fn.ntmps - vs.toArray.size) undef, defers := [] } w η := by
    have hsz : (vs.toArray ++ Array.replicate (fn.ntmps - vs.toArray.size) undef).size = fn.ntmps := by simp; omega
    refine ⟨rfl, hsz, Below.refl _ _, ⟨hB, hobl, hfree⟩, fun _ _ _ => rfl, fun b ⟨k, r, hk, hb⟩ => ?_, hh, fun i x hi => ?_⟩
    · obtain ⟨rfl, rfl⟩ := hone k r hk; exact .inl hb
    · simp only at hi
      rw [look_cons] at hi
      split at hi
      · rename_i hni
        subst hni
        have hx := Option.some.inj hi
        subst hx
        have hget : (vs.toArray ++ Array.replicate (fn.ntmps - vs.toArray.size) undef).getD fn.ntmps (W0.γ fn.ntmps) = η.val 0 := by
          have : W0.γ fn.ntmps = η.val 0 := if_pos rfl
          rw [Array.getD_eq_getD_getElem?, Array.getElem?_eq_none (by rw [hsz]; exact Nat.le_refl _), this]; rfl
        rw [hget]
        match r0, hg, hrow0, hone with
        | .ints .., hg, _, _ => simp [tRow] at hg
        | .rows .., hg, _, _ => simp [tRow] at hg
        | .recs .., hg, _, _ => simp [tRow] at hg
        | .cells _ [], hg, _, _ => simp [tRow] at hg
        | .cells _ (y :: l), _, hrow0, _ =>
          obtain ⟨b, h1, _, _, h4⟩ := hrow0
          have := VReps.length h4
          exact ⟨Nat.one_pos, fun r _ => ⟨by rw [← this]; simp, b, by rw [h1]; rfl, h1⟩⟩
      · rename_i hni
        obtain ⟨v, _, h2, h3⟩ := init_look' hvs i x hi
        simp only [Nat.sub_zero] at h2
        have hlt : i < vs.length := (List.getElem?_eq_some_iff.1 h2).1
        have : (vs.toArray ++ Array.replicate (fn.ntmps - vs.toArray.size) undef).getD i (W0.γ i) = v := by
          rw [Array.getD_eq_getD_getElem?, Array.getElem?_append_left (by simpa using hlt)]
          simp [h2]
        rw [this]
        exact h3
  refine wp_mono (acode_sound (w0 := W0) hΓ hm c _ _ _ w h ⟨η, hs⟩) (fun e a' w' hl => ?_)
  obtain ⟨st', hk, η', hs'⟩ := hl
  have fin : ares Γ st' fn.results.toList (ofin fn.ntmps r0 post st') → ∃ v, (results fn a'.tmps).run P w' = .ok v w' ∧ ∃ v' x h ηh r' η', Ending.returned v = .returned v' ∧ post x h r' ∧ noSh x = true ∧ rowsOwn h = true ∧ HRep w' w.heap.size (fun _ => False) h h.length ηh ∧
      VRep w' (fun b => False ∨ ownB h ηh b) h h.length ηh x v' ∧ Below B w w' ∧
      (∀ b, b < w.heap.size → b ∉ bsOf η 0 r0 → w'.heap[b]? = w.heap[b]?) ∧ tRow r' = true ∧ RowRep w' B (fun b => badOf ob [(0, r')] η' b ∨ ownB h ηh b) [(0, r')] 1 η' 0 r' ∧ (bsOf η' 0 r').Nodup ∧
      r'.kind = r0.kind ∧ η'.val 0 = η.val 0 ∧ (η'.cel 0).length = (η.cel 0).length := fun hk => by
    obtain ⟨xs, us, h1, h2, h3⟩ := ares_sound hΓ hs' hk
    have hres := results_run h3
    unfold ofin at h1
    have hres0 := resx_rep h2
    split at h1
    case h_2 => exact h1.elim
    case h_1 g hgl =>
      split at h1
      case h_2 => exact h1.elim
      case h_1 r' hr' =>
        split at h1
        case h_2 => exact h1.elim
        case h_1 hc =>
          simp only [Bool.and_eq_true] at hc
          obtain ⟨⟨⟨⟨c1, c2⟩, c3⟩, c4⟩, c5⟩ := hc
          have hsz' := Nat.eq_of_beq_eq_true c5
          have hkind := Nat.eq_of_beq_eq_true c1
          obtain ⟨x', hr, ηr, hpost, hH, hV, hS⟩ := afin_sound' hs' (x := resx xs) hres0 h1
          split at hpost
          case h_2 => exact hpost.elim
          case h_1 hown =>
            simp only [Bool.and_eq_true] at hown
            have hrow' := hs'.heap.row 0 r' hr'
            have hsub : ∀ b, ownB hr ηr b → ownB st'.hp η' b := fun b hb => by
              obtain ⟨j, r, h4, _, h5⟩ := hS b hb
              exact ⟨j, r, h4, h5⟩
            have hkeep : Keeps w' (badOf ob st'.hp η') w' (fun b => badOf ob [(0, r')] η' b ∨ ownB hr ηr b) := fun b o x hb hc => by
              refine ⟨?_, hc⟩
              rintro ((h1 | ⟨j, r1, hj, hm⟩) | h1)
              · exact hb (.inl h1)
              · rw [look_cons] at hj
                split at hj
                · rename_i h0
                  subst h0
                  obtain rfl := Option.some.inj hj
                  exact hb (.inr ⟨0, _, hr', hm⟩)
                · cases hj
              · exact hb (.inr (hsub b h1))
            have hfrm : ∀ b, b < w.heap.size → b ∉ bsOf η 0 r0 → w'.heap[b]? = w.heap[b]? := fun b hb hnb => hs'.frame b hb hnb
            have hnod := hs'.heap.nodup 0 r' hr'
            have hmay : ∀ b, W0.may b → b ∈ bsOf η 0 r0 := fun _ h => h
            have hapart := fun j r hj hne => hs'.heap.apart j r 0 r' hj hr' hne
            match r0, r', g, hg, c2, c3, c4, hrow0, hrow', hr', hgl, hkeep, hkind, hpost, hfrm, hnod, hapart, hmay with
            | .cells _ (y0 :: l0), .cells e (y :: l), .ptr 0 0, _, _, c3, c4, hrow0, hrow', hr', hgl, hkeep, hkind, hpost, hfrm, hnod, hapart, hmay =>
              obtain ⟨b0, p1, p2, p3, p4⟩ := hrow0
              obtain ⟨b1, q1, q2, q3, q4⟩ := hrow'
              have hslot := hs'.slot _ _ hgl
              have hget : a'.tmps.getD fn.ntmps (W0.γ fn.ntmps) = η.val 0 := by
                have e1 : W0.γ fn.ntmps = η.val 0 := if_pos rfl
                rw [Array.getD_eq_getD_getElem?, Array.getElem?_eq_none (by rw [hs'.size, hsz']; exact Nat.le_refl _), e1]; rfl
              rw [hget] at hslot
              have hval : η'.val 0 = η.val 0 := by
                obtain ⟨_, b', e2, e3⟩ := hslot.2 _ hr'
                rw [q1, ptr_blk] at e2
                simp only [List.cons.injEq, and_true] at e2
                rw [q1, e3, e2]
              have hlen' : (η'.cel 0).length = (η.cel 0).length := by
                have l0' := VReps.length p4
                have l1' := VReps.length q4
                have := Nat.eq_of_beq_eq_true c4
                omega
              have hge : ∀ b, ownB hr ηr b → w.heap.size ≤ b := fun b hb => by
                obtain ⟨j, r, h4, h6, h5⟩ := hS b hb
                rcases hs'.src b ⟨j, r, h4, h5⟩ with h7 | h7
                · have hj : j ≠ 0 := fun e1 => by
                    subst e1
                    rw [hr'] at h4
                    exact h6 _ _ (Option.some.inj h4).symm
                  have h8 := hmay b h7
                  refine absurd ?_ (hapart j r h4 hj b h5)
                  simp only [bsOf, ARow.kind, hval] at h8 ⊢
                  exact h8
                · exact h7
              have hH2 := (HRep.raise hH hown.2 hge).bad (ob' := fun _ => False) hown.2
              have hV2 : VRep w' (fun b => False ∨ ownB hr ηr b) hr hr.length ηr x' _ := noSh_bad x' hown.1 hV
              exact ⟨_, hres, _, x', hr, ηr, .cells e (y :: l), η', rfl, hpost, hown.1, hown.2, hH2, hV2, hs'.below, hfrm, c3, ⟨b1, q1, q2, q3, tcells_rep hkeep c3 q4⟩, hnod, hkind, hval, hlen'⟩
  cases e with
  | ret => exact ⟨hs'.defers, fin hk⟩
  | normal => exact ⟨hs'.defers, fin hk⟩
  | _ => exact hk.elim

mutual
theorem noSh_flt (f : Nat → Bool) (g : Nat → Bool) (hf : ∀ k, f k = true) : ∀ (x : AVal), noSh x = true → x.flt f g = x
  | .c _, _ => rfl
  | .nul, _ => rfl
  | .own k, _ => by simp [AVal.flt, hf]
  | .ag l, h => by simp only [AVal.flt]; rw [noShs_flt f g hf l (by simpa [noSh] using h)]
  | .tu l, h => by simp only [AVal.flt]; rw [noShs_flt f g hf l (by simpa [noSh] using h)]
  | .un, h => by simp [noSh] at h
  | .t _, h => by simp [noSh] at h
  | .sub _ _, h => by simp [noSh] at h
  | .ptr _ _, h => by simp [noSh] at h
  | .subp _ _ _, h => by simp [noSh] at h
  | .adr _ _, h => by simp [noSh] at h
  | .rp _ _, h => by simp [noSh] at h
  | .clo _ _, h => by simp [noSh] at h
  | .knot _ _ _, h => by simp [noSh] at h
theorem noShs_flt (f : Nat → Bool) (g : Nat → Bool) (hf : ∀ k, f k = true) : ∀ (l : List AVal), noShs l = true → flts f g l = l
  | [], _ => rfl
  | x :: l, h => by
    simp only [noShs, Bool.and_eq_true] at h
    simp only [flts]
    rw [noSh_flt f g hf x h.1, noShs_flt f g hf l h.2]
end
mutual
theorem noSh_shift (d : Nat) : ∀ (x : AVal), noSh x = true → noSh (x.shift d) = true
  | .c _, _ => rfl
  | .nul, _ => rfl
  | .own k, _ => rfl
  | .ag l, h => by simp only [AVal.shift, noSh]; exact noShs_shift d l (by simpa [noSh] using h)
  | .tu l, h => by simp only [AVal.shift, noSh]; exact noShs_shift d l (by simpa [noSh] using h)
  | .un, h => by simp [noSh] at h
  | .t _, h => by simp [noSh] at h
  | .sub _ _, h => by simp [noSh] at h
  | .ptr _ _, h => by simp [noSh] at h
  | .subp _ _ _, h => by simp [noSh] at h
  | .adr _ _, h => by simp [noSh] at h
  | .rp _ _, h => by simp [noSh] at h
  | .clo _ _, h => by simp [noSh] at h
  | .knot _ _ _, h => by simp [noSh] at h
theorem noShs_shift (d : Nat) : ∀ (l : List AVal), noShs l = true → noShs (shifts d l) = true
  | [], _ => rfl
  | x :: l, h => by
    simp only [noShs, Bool.and_eq_true] at h
    simp only [shifts, noShs, Bool.and_eq_true]
    exact ⟨noSh_shift d x h.1, noShs_shift d l h.2⟩
end

/-- rows of one's own, in a world that has left their blocks -/
theorem HRep.world {hp : List (Nat × ARow)} {nx B : Nat} (h : HRep w B ob hp nx η) (ho : rowsOwn hp = true) (hb : ∀ b, ownB hp η b → w'.heap[b]? = w.heap[b]?) : HRep w' B ob hp nx η := by
  have h1 := HRep.bad (ob' := fun _ => True) h ho
  have hk : ∀ bad', Keeps w (badOf (fun _ => True) hp η) w' bad' := fun bad' b o x hn _ => absurd (.inl trivial) hn
  refine (HRep.bad (ob := fun _ => True) ⟨fun k r hr => ?_, h1.nodup, h1.apart, h1.lt⟩ ho)
  have := (h1.row k r hr).flt (f := fun _ => true) (g := fun _ => true) (w' := w') (bad' := badOf (fun _ => True) hp η) (hp' := hp) (nx' := nx) (η' := η) (hk _) (Nat.le_refl _) (fun k _ _ => OwnOk.refl _ _ k) (fun k _ _ => SubOk.refl _ _ k) rfl rfl
    (fun b hm => hb b ⟨k, r, hr, hm⟩)
  rwa [rowflt_true] at this

theorem ACallS.omut {f : FuncId} {args args0 : List AVal} {r0 : ARow} {K : AVal → St → Prop} {post : AVal → List (Nat × ARow) → ARow → Prop} (k : Nat) (hs : OSpec P f r0 args0 post)
    (hk : ∀ x h r', post x h r' → K (x.shift st.nx) (((st.add h).killSub k).upd k r')) (hlk : look st.hp k = some r0) (hv : vws st.hp [(0, .row k)] 1 args args0) (hr : rowVw st.hp [(0, .row k)] 1 (.row k) r0)
    (hp : pargs args args0 = true := by rfl) (ht : tRow r0 = true := by rfl) : ACallS P st f args K := by
  refine ⟨hs.1, fun w0 ob a w η h vs hvs => ?_⟩
  have hrv : rowsVw st.hp [(0, .row k)] 1 [(0, r0)] := ⟨rfl, hr, trivial⟩
  have hfree : ∀ b, ownB st.hp η b → ¬ ob b := fun b hb => h.free hb
  have ha0 := vws_sound (R := [(0, .row k)]) (nx' := 1) h.heap hfree hrv args args0 hv hvs
  let η1 : Env := ηV st.hp η [(0, Org.row k)]
  let ob1 : Nat → Prop := fun b => ob b ∨ ∃ j r, j ≠ k ∧ look st.hp j = some r ∧ b ∈ bsOf η j r
  have hv0 : η1.val 0 = η.val k := rfl
  have hc0 : η1.cel 0 = η.cel k := rfl
  have hbs : ∀ r, bsOf η1 0 r = bsOf η k r := fun r => by simp only [bsOf, hv0, hc0]
  have hone : ∀ j r, look [(0, r0)] j = some r → j = 0 ∧ r = r0 := fun j r hk => by
    rw [look_cons] at hk
    split at hk
    · rename_i h0; exact ⟨h0.symm, (Option.some.inj hk).symm⟩
    · cases hk
  have hdis : ∀ b, b ∈ bsOf η1 0 r0 → ¬ ob1 b := fun b hb => by
    rw [hbs] at hb
    rintro (h1 | ⟨j, r, hj, hl, hm⟩)
    · exact hfree b ⟨k, r0, hlk, hb⟩ h1
    · exact h.heap.apart j r k r0 hl hlk hj b hm hb
  have hkeep : Keeps w (badOf ob st.hp η) w (badOf ob1 [(0, r0)] η1) := fun b o x hb hc => by
    refine ⟨?_, hc⟩
    rintro ((h1 | ⟨j, r, _, hl, hm⟩) | ⟨j, r, hj, hm⟩)
    · exact hb (.inl h1)
    · exact hb (.inr ⟨j, r, hl, hm⟩)
    · obtain ⟨rfl, rfl⟩ := hone j r hj
      rw [hbs] at hm
      exact hb (.inr ⟨k, _, hlk, hm⟩)
  obtain ⟨b0, hb0, hb0B, hb0lt, hkind0, hkne⟩ : ∃ b0, blk (η.val k) = [b0] ∧ w0.B ≤ b0 ∧ b0 < w.heap.size ∧ bsOf η k r0 = [b0] ∧ r0.kind ≠ 2 := by
    have hrow := h.heap.row k _ hlk
    match r0, ht, hrow with
    | .cells e (y :: l), ht, ⟨b, p1, p2, p3, p4⟩ =>
      have hb : blk (η.val k) = [b] := by rw [p1]; rfl
      exact ⟨b, hb, p2, (Array.getElem?_eq_some_iff.1 p3).1, by simp [bsOf, ARow.kind, hb], by simp [ARow.kind]⟩
    | .cells _ [], ht, _ => simp [tRow] at ht
    | .ints .., ht, _ => simp [tRow] at ht
    | .rows .., ht, _ => simp [tRow] at ht
    | .recs .., ht, _ => simp [tRow] at ht
  have hh1 : HRep w w0.B ob1 [(0, r0)] 1 η1 := by
    refine ⟨fun j r hj => ?_, fun j r hj => ?_, fun j r j' r' hj hj' hne => ?_, fun j r hj => ?_⟩
    · obtain ⟨rfl, rfl⟩ := hone j r hj
      have hrow := h.heap.row k _ hlk
      match r, ht, hrow with
      | .cells e (y :: l), ht, ⟨b, p1, p2, p3, p4⟩ => exact ⟨b, by rw [hv0]; exact p1, p2, by rw [hc0]; exact p3, by rw [hc0]; exact tcells_rep hkeep ht p4⟩
      | .cells _ [], ht, _ => simp [tRow] at ht
      | .ints .., ht, _ => simp [tRow] at ht
      | .rows .., ht, _ => simp [tRow] at ht
      | .recs .., ht, _ => simp [tRow] at ht
    · obtain ⟨rfl, rfl⟩ := hone j r hj
      rw [hbs]; exact h.heap.nodup k _ hlk
    · obtain ⟨rfl, rfl⟩ := hone j r hj
      obtain ⟨rfl, rfl⟩ := hone j' r' hj'
      exact absurd rfl hne
    · obtain ⟨rfl, rfl⟩ := hone j r hj
      exact Nat.one_pos
  refine (hs.2 w w0.B ob1 η1 vs (wB h) (fun b hb => ?_) hdis hh1 (pargs_rep hkeep args args0 vs hp hv hvs ha0)).mono ?_
  · rcases hb with h1 | ⟨j, r, _, hl, hm⟩
    · exact h.badlt (.inl h1)
    · exact h.badlt (.inr ⟨j, r, hl, hm⟩)
  · rintro e w' ⟨v, x, hn, ηh, r', η', rfl, hpo, hns, hro, hH, hV, hbel, hfrm, ht', hrow, hnd, hkind, hval, hlen⟩
    have hknx := h.heap.lt k _ hlk
    have hsz := hbel.size
    -- the world in which the variable is as it was
    have hw0 : ∃ o, w.heap[b0]? = some o := ⟨_, Array.getElem?_eq_getElem hb0lt⟩
    obtain ⟨o0, ho0⟩ := hw0
    let w1 : World := { w' with heap := w'.heap.setIfInBounds b0 o0 }
    have hw1 : ∀ b, b ≠ b0 → w1.heap[b]? = w'.heap[b]? := fun b hb => by simp [w1, Ne.symm hb]
    have hw1s : w1.heap.size = w'.heap.size := by simp [w1]
    have hnb : ∀ b, b ∉ bsOf η1 0 r0 ↔ b ≠ b0 := fun b => by rw [hbs, hkind0]; simp
    have hBel1 : Below w.heap.size w w1 := by
      refine ⟨hbel.os, hbel.tape, hbel.output, by rw [hw1s]; exact hsz, fun b hb => ?_⟩
      by_cases e : b = b0
      · subst e
        rw [ho0]
        simp only [w1]
        rw [Array.getElem?_setIfInBounds, if_pos rfl, if_pos (by omega)]
      · rw [hw1 b e]; exact hfrm b hb ((hnb b).2 e)
    have hnew : ∀ b, ownB hn ηh b → w.heap.size ≤ b := fun b ⟨j, r, hj, hb⟩ => ((hH.row j r hj).lt b hb).1
    have hH1 : HRep w1 w.heap.size (badOf ob st.hp η) hn hn.length ηh := HRep.world (hH.bad hro) hro (fun b hb => hw1 b (by have := hnew b hb; omega))
    have hV0 : VRep w1 (fun _ => True) hn hn.length ηh x v := VRep.frame (w := w') (bad := fun _ => True) (fun b o x hb _ => absurd trivial hb) (Nat.le_refl _) (fun k _ => OwnOk.refl _ _ k) (fun k _ => SubOk.refl _ _ k) (noSh_bad x hns hV)
    obtain ⟨hs1, hvr⟩ := h.join hBel1 hH1
    have hV1 := hvr x v (noSh_bad x hns hV0)
    have hη1 : ∀ j, j < st.nx → (Env.join st.nx η ηh).val j = η.val j ∧ (Env.join st.nx η ηh).cel j = η.cel j := fun j hj => by simp [Env.join, hj]
    have hη2 : ∀ j, (Env.join st.nx η ηh).val (j + st.nx) = ηh.val j ∧ (Env.join st.nx η ηh).cel (j + st.nx) = ηh.cel j := fun j => by
      have : ¬ (j + st.nx < st.nx) := by omega
      simp only [Env.join, this, if_false, Nat.add_sub_cancel]
      exact ⟨trivial, trivial⟩
    have hl1 : ∀ j, j < st.nx → look (st.add hn).hp j = look st.hp j := fun j hj => by
      simp only [St.add]; rw [look_append, look_shift_lt _ _ _ hj]
    have hsplit : ∀ j r, look (st.add hn).hp j = some r → (j < st.nx ∧ look st.hp j = some r) ∨ ∃ i r0, j = i + st.nx ∧ look hn i = some r0 ∧ r = r0.shift st.nx := fun j r hj => by
      by_cases hlt : j < st.nx
      · exact .inl ⟨hlt, by rw [hl1 j hlt] at hj; exact hj⟩
      · obtain ⟨i, rfl⟩ : ∃ i, j = i + st.nx := ⟨j - st.nx, by omega⟩
        simp only [St.add] at hj
        rw [look_append, look_shift] at hj
        cases hi : look hn i with
        | some r1 =>
          rw [hi] at hj
          simp only [Option.map_some, Option.some.injEq] at hj
          exact .inr ⟨i, r1, rfl, hi, hj.symm⟩
        | none =>
          rw [hi] at hj
          simp only [Option.map_none] at hj
          have := h.heap.lt _ r hj
          omega
    generalize hηJ : Env.join st.nx η ηh = ηJ at hs1 hvr hV1 hη1 hη2
    have hlkJ : look (st.add hn).hp k = some r0 := by rw [hl1 k hknx]; exact hlk
    have hbsJ : bsOf ηJ k r0 = [b0] := by rw [bsOf_congr (hη1 k hknx).1 (hη1 k hknx).2 rfl, hkind0]
    have hu : (ηJ.upd k (ηJ.val k) (η'.cel 0)).val k = η'.val 0 := by rw [upd_val, (hη1 k hknx).1, hval, hv0]
    have hbs' : bsOf (ηJ.upd k (ηJ.val k) (η'.cel 0)) k r' = bsOf η' 0 r' := by simp only [bsOf, hu, upd_cel]
    have hbr' : ∀ b, b ∈ bsOf η' 0 r' → b = b0 := fun b hb => by
      have e : bsOf η' 0 r' = [b0] := by simp [bsOf, hkind, hkne, hval, hv0, hb0]
      rw [e] at hb; simpa using hb
    have hkeep' : Keeps w' (fun b => badOf ob1 [(0, r')] η' b ∨ ownB hn ηh b) w' (badOf ob (((st.add hn).killSub k).upd k r').hp (ηJ.upd k (ηJ.val k) (η'.cel 0))) := fun b o x hb hc => by
      refine ⟨?_, hc⟩
      rintro (h1 | ⟨j, r1, hj, hm⟩)
      · exact hb (.inl (.inl (.inl h1)))
      · by_cases hjk : j = k
        · subst hjk
          simp only [St.upd, look_upd, if_true] at hj
          obtain rfl := Option.some.inj hj
          rw [hbs'] at hm
          exact hb (.inl (.inr ⟨0, _, rfl, hm⟩))
        · simp only [St.upd, St.killSub, look_upd, if_neg (Ne.symm hjk), look_fltH] at hj
          obtain ⟨r2, h2, rfl⟩ := Option.map_eq_some_iff.1 hj
          rw [bsOf_flt, bsOf_congr (upd_ne _ _ _ _ j hjk).1 (upd_ne _ _ _ _ j hjk).2 rfl] at hm
          rcases hsplit j r2 h2 with ⟨hlt, h3⟩ | ⟨i, r3, rfl, h3, rfl⟩
          · rw [bsOf_congr (hη1 j hlt).1 (hη1 j hlt).2 rfl] at hm
            exact hb (.inl (.inl (.inr ⟨j, r2, hjk, h3, hm⟩)))
          · have e1 : bsOf ηJ (i + st.nx) (ARow.shift st.nx r3) = bsOf ηh i r3 := by simp only [bsOf, (hη2 i).1, (hη2 i).2, kind_shift]
            rw [e1] at hm
            exact hb (.inr ⟨i, r3, h3, hm⟩)
    have hB1 : Below w0.B w1 w' := by
      refine ⟨rfl, rfl, rfl, by rw [hw1s]; exact Nat.le_refl _, fun b hb => ?_⟩
      exact (hw1 b (by omega)).symm
    have hs' := SRep.mutT (w' := w') hs1 (cs' := η'.cel 0) hlkJ hkind (by rw [hlen, hc0, (hη1 k hknx).2]; exact Nat.le_refl _) (fun b _ hn => by
        rw [hbsJ] at hn
        exact (hw1 b (by simpa using hn)).symm) hB1
      (by rw [hbs']; exact hnd) (fun b hb => by rw [hbs'] at hb; rw [hbsJ]; exact .inl (by simp [hbr' b hb])) (by
        match r', ht', hrow with
        | .cells e (y :: l), ht', ⟨b, p1, p2, p3, p4⟩ => exact ⟨b, by rw [hu]; exact p1, p2, by rw [upd_cel]; exact p3, by rw [upd_cel]; exact tcells_rep hkeep' ht' p4⟩
        | .cells _ [], ht', _ => simp [tRow] at ht'
        | .ints .., ht', _ => simp [tRow] at ht'
        | .rows .., ht', _ => simp [tRow] at ht'
        | .recs .., ht', _ => simp [tRow] at ht')
    have hok : ∀ j, OwnOk (st.add hn).hp ηJ (((st.add hn).killSub k).upd k r').hp (ηJ.upd k (ηJ.val k) (η'.cel 0)) j := fun j => by
      by_cases hjk : j = k
      · subst hjk
        exact ⟨fun r1 h1 => by
          simp only [St.upd, look_upd, if_true] at h1
          obtain rfl := Option.some.inj h1
          exact ⟨r0, hlkJ, hkind.symm, upd_val _ _ _ _, by rw [upd_cel, hlen, hc0, (hη1 j hknx).2]; exact Nat.le_refl _⟩⟩
      · exact OwnOk.of (fun r1 h1 => by
          simp only [St.upd, St.killSub, look_upd, if_neg (Ne.symm hjk), look_fltH] at h1
          obtain ⟨r, h2, rfl⟩ := Option.map_eq_some_iff.1 h1
          exact ⟨r, h2, (kind_flt _ _ r).symm⟩) (upd_ne _ _ _ _ j hjk).1 (upd_ne _ _ _ _ j hjk).2
    have hns' := noSh_shift st.nx x hns
    have hfin : VRep w' (fun _ => True) (((st.add hn).killSub k).upd k r').hp (((st.add hn).killSub k).upd k r').nx (ηJ.upd k (ηJ.val k) (η'.cel 0)) ((x.shift st.nx).flt (fun _ => true) (fun _ => false)) v :=
      VRep.flt (w := w1) (bad := fun _ => True) (fun b o x hb _ => absurd trivial hb) (Nat.le_refl _) (fun j _ _ => hok j) (fun j _ hj => by cases hj) _ _ (noSh_bad _ hns' hV1)
    rw [noSh_flt _ _ (fun _ => rfl) _ hns'] at hfin
    exact ⟨v, x.shift st.nx, _, _, rfl, hk x hn r' hpo, rfl, hs', noSh_bad _ hns' hfin⟩
end
end Go.Aw
