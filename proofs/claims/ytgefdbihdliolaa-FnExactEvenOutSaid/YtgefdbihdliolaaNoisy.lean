/- Scaled boxes; mixtures of an equal-sum box and noise: reference and program. -/
import Derived.Test.YtgefdbihdliolaaEqual
import Derived.Test.YtgefdbihdliolaaQuiet
namespace Go.Aw
def timesR (k d : Int) (r : List Int) : List Int := r.map fun v => W (Int.tdiv (W (v * k)) d)
def timesL (m : List (List Int)) (k d : Int) : List (List Int) := m.map (timesR k d)
theorem timesL_len (m : List (List Int)) (k d : Int) : (timesL m k d).length = m.length := by simp [timesL]
/-- rows of which the first have something else in them -/
def partW (g : Int → Int) (M : List (List Int)) (i n : Nat) : List (List Int) :=
  (List.range 4).map fun p => (List.range 4).map fun q => if p < i ∨ (p = i ∧ q < n) then g ((M.getD p []).getD q 0) else (M.getD p []).getD q 0
theorem partW_step (g : Int → Int) (M : List (List Int)) {i n : Nat} (hi : i < 4) (hn : n < 4) :
    (partW g M i n).set i (((partW g M i n).getD i []).set n (g (((partW g M i n).getD i []).getD n 0))) = partW g M i (n + 1) := by
  have h1 : i = 0 ∨ i = 1 ∨ i = 2 ∨ i = 3 := by omega
  have h2 : n = 0 ∨ n = 1 ∨ n = 2 ∨ n = 3 := by omega
  rcases h1 with rfl | rfl | rfl | rfl <;> rcases h2 with rfl | rfl | rfl | rfl <;> rfl
theorem partW_end (g : Int → Int) (M : List (List Int)) {i : Nat} (hi : i < 4) : partW g M i 4 = partW g M (i + 1) 0 := by
  have h1 : i = 0 ∨ i = 1 ∨ i = 2 ∨ i = 3 := by omega
  rcases h1 with rfl | rfl | rfl | rfl <;> rfl
theorem partW_len (g : Int → Int) (M : List (List Int)) (i n : Nat) : (partW g M i n).length = 4 := by simp [partW]
theorem partW_row (g : Int → Int) (M : List (List Int)) {i n p : Nat} (hp : p < 4) : ((partW g M i n).getD p []).length = 4 := by
  rw [partW, range_getD hp]; simp
theorem partW_all (g : Int → Int) (f : Nat → Nat → Nat → Nat → Int) : partW g (boxRows f 2 2) 4 0 = boxRows (fun x y a b => g (f x y a b)) 2 2 := rfl
theorem partW_zero (g : Int → Int) (f : Nat → Nat → Nat → Nat → Int) : partW g (boxRows f 2 2) 0 0 = boxRows f 2 2 := rfl
theorem boxRows_rows (f : Nat → Nat → Nat → Nat → Int) (nx ny : Nat) : ∀ r, r ∈ boxRows f nx ny → r.length = 4 := fun q hq => by
  obtain ⟨i, _, hq⟩ := List.mem_flatMap.1 hq
  obtain ⟨j, _, rfl⟩ := List.mem_map.1 hq
  simp [boxRow]
theorem boxRows_get (f : Nat → Nat → Nat → Nat → Int) {x y a b : Nat} (hx : x < 2) (hy : y < 2) (ha : a < 2) (hb : b < 2) : ((boxRows f 2 2).getD (x * 2 + y) []).getD (2 * a + b) 0 = f x y a b := by
  have h1 : x = 0 ∨ x = 1 := by omega
  have h2 : y = 0 ∨ y = 1 := by omega
  have h3 : a = 0 ∨ a = 1 := by omega
  have h4 : b = 0 ∨ b = 1 := by omega
  rcases h1 with rfl | rfl <;> rcases h2 with rfl | rfl <;> rcases h3 with rfl | rfl <;> rcases h4 with rfl | rfl <;> rfl
theorem tdiv_one (a : Int) : a.tdiv 1 = a := Int.tdiv_one a
theorem WW (a : Int) : W (W a) = W a := by
  have hb : -9223372036854775808 ≤ W a ∧ W a ≤ 9223372036854775807 := by
    show -9223372036854775808 ≤ IntKind.i64.wrap _ ∧ IntKind.i64.wrap _ ≤ _
    rw [IntKind.wrap_i64]; omega
  exact w64 hb.1 hb.2
end Go.Aw
namespace Go.Proofs.Ytgefdbihdliolaa
open Go.Aw
set_option maxRecDepth 100000
set_option maxHeartbeats 4000000

theorem l2Times_spec (x y z : Int) (m : List (List Int)) (k d : Int) (hd : d ≠ 0) (hm : m.length ≤ 1000) (hr : ∀ r, r ∈ m → r.length ≤ 1000) :
    FSpec Try.prog 77 [.ag [.c (.int .i64 (x)), .c (.int .i64 (y)), .c (.int .i64 (z)), .t (.rows m)], .c (.int .i64 (k)), .c (.int .i64 (d))] (ex (.ag [.c (.int .i64 (x)), .c (.int .i64 (y)), .c (.int .i64 (W (Int.tdiv (W (z * k)) d))), .own 0]) [(0, .rows 23 3 true (timesL m k d))]) := by
  refine fspec tyOk mx Try.func77 rfl (by kernel_rfl) rfl ?_
  conv => whnf
  refine ADraw.mid (⟨63, [(1, .c (.int .i64 (k))), (2, .c (.int .i64 (d))), (3, .ptr 0 0), (6, .ptr 1 0), (7, .ptr 3 0)], [(0, .cells 42 [.c (.int .i64 (x)), .c (.int .i64 (y)), .c (.int .i64 (z)), .t (.rows m)]), (1, .cells 42 [.c (.int .i64 (0)), .c (.int .i64 (0)), .c (.int .i64 (0)), .c (.slice none 0 0)]), (2, .rows 23 3 true []), (3, .cells 42 [.c (.int .i64 (x)), .c (.int .i64 (y)), .c (.int .i64 (W (Int.tdiv (W (z * k)) d))), .own 2])], 4⟩ : St) (ADraw.plan tyOk mx (.q 0 (.q 1 (.q 2 (.q 3 (.q 4 (.q 5 (.q 6 (.q 7 (.q 8 (.q 9 (.alt 10 (.q 11 (.last 12 (.last 13 (.done)))) (.last 12 (.last 10 (.q 11 (.last 13 (.done))))))))))))))) : Plan) (by kernel_rfl) ?_) ?_
  · conv => whnf
    repeat' (first | (refine ⟨hd, ?_⟩; conv => whnf) | (refine And.intro ?_ ?_ <;> (conv => whnf)))
    all_goals first
      | (refine ⟨[(0, .row 0), (1, .row 1), (2, .row 2), (3, .row 3)], ?_⟩; (refine ⟨rfl, rfl, ?_, ?_⟩ <;> ((repeat' (first | exact trivial | exact rfl | refine And.intro ?_ ?_)) <;> (try ((conv => whnf); first | refine vint ?_ | refine vboo ?_ | refine rint ?_ | refine rrow ?_ | skip)) <;> (try first | omega | (simp; done) | ((repeat rw [flts_closed _ (by assumption)]); exact vws_closed _ (by assumption))))); done)
      | (refine ⟨[(0, .row 0), (1, .row 1), (2, .row 3), (3, .row 2)], ?_⟩; (refine ⟨rfl, rfl, ?_, ?_⟩ <;> ((repeat' (first | exact trivial | exact rfl | refine And.intro ?_ ?_)) <;> (try ((conv => whnf); first | refine vint ?_ | refine vboo ?_ | refine rint ?_ | refine rrow ?_ | skip)) <;> (try first | omega | (simp; done) | ((repeat rw [flts_closed _ (by assumption)]); exact vws_closed _ (by assumption))))); done)
  conv => whnf
  refine aloopI tyOk mx (fun i : Nat => (⟨63, [(1, .c (.int .i64 (k))), (2, .c (.int .i64 (d))), (3, .ptr 0 0), (6, .ptr 1 0), (7, .ptr 3 0), (8, .c (.int .i64 (i)))], [(0, .cells 42 [.c (.int .i64 (x)), .c (.int .i64 (y)), .c (.int .i64 (z)), .t (.rows m)]), (1, .cells 42 [.c (.int .i64 (0)), .c (.int .i64 (0)), .c (.int .i64 (0)), .c (.slice none 0 0)]), (2, .rows 23 3 true (timesL (m.take i) k d)), (3, .cells 42 [.c (.int .i64 (x)), .c (.int .i64 (y)), .c (.int .i64 (W (Int.tdiv (W (z * k)) d))), .own 2])], 4⟩ : St)) (fun i => i ≤ m.length) (fun i => m.length - i) 0 (Nat.zero_le _) none (by refine ⟨rfl, rfl, ?_, ?_⟩ <;> ((repeat' (first | exact trivial | exact rfl | refine And.intro ?_ ?_)) <;> (try ((conv => whnf); first | refine vint ?_ | refine vboo ?_ | refine rint ?_ | refine rrow ?_ | skip)) <;> (try first | omega | (simp; done) | ((repeat rw [flts_closed _ (by assumption)]); exact vws_closed _ (by assumption))))) (fun i hi => ?_)
  have hl : (timesL (m.take i) k d).length = i := by rw [timesL_len, List.length_take]; omega
  refine ⟨fun h => ?_, fun h => ?_⟩
  · have h := ltT h
    have hjc := hr _ (getD_mem (d := []) h)
    conv => whnf
    refine aloopI tyOk mx (fun n : Nat => (⟨63, [(1, .c (.int .i64 (k))), (2, .c (.int .i64 (d))), (3, .ptr 0 0), (6, .ptr 1 0), (7, .ptr 3 0), (8, .c (.int .i64 (i))), (9, .own 4), (10, .c (.int .i64 (n)))], [(0, .cells 42 [.c (.int .i64 (x)), .c (.int .i64 (y)), .c (.int .i64 (z)), .t (.rows m)]), (1, .cells 42 [.c (.int .i64 (0)), .c (.int .i64 (0)), .c (.int .i64 (0)), .c (.slice none 0 0)]), (2, .rows 23 3 true (timesL (m.take i) k d)), (3, .cells 42 [.c (.int .i64 (x)), .c (.int .i64 (y)), .c (.int .i64 (W (Int.tdiv (W (z * k)) d))), .own 2]), (4, .ints 3 .i64 (timesR k d ((m.getD i []).take n)))], 5⟩ : St)) (fun n => n ≤ (m.getD i []).length) (fun n => (m.getD i []).length - n) 0 (Nat.zero_le _) none (by refine ⟨rfl, rfl, ?_, ?_⟩ <;> ((repeat' (first | exact trivial | exact rfl | refine And.intro ?_ ?_)) <;> (try ((conv => whnf); first | refine vint ?_ | refine vboo ?_ | refine rint ?_ | refine rrow ?_ | skip)) <;> (try first | omega | (simp; done) | ((repeat rw [flts_closed _ (by assumption)]); exact vws_closed _ (by assumption))))) (fun n hn => ?_)
    have hl2 : (timesR k d ((m.getD i []).take n)).length = n := by rw [timesR, List.length_map, List.length_take]; omega
    refine ⟨i, rfl, h, fun h2 => ?_, fun h2 => ?_⟩
    · have h2 := ltT h2
      conv => whnf
      refine ⟨i, rfl, h, n, rfl, h2, ?_⟩
      conv => whnf
      refine ⟨hd, ?_⟩
      conv => whnf
      refine ⟨by rw [hl2]; simp [room]; omega, ?_⟩
      conv => whnf
      rw [nat_wrap (by omega)]
      refine ⟨n + 1, none, ?_, by omega, by omega⟩
      (refine ⟨rfl, rfl, ?_, ?_⟩ <;> ((repeat' (first | exact trivial | exact rfl | refine And.intro ?_ ?_)) <;> (try ((conv => whnf); first | refine vint ?_ | refine vboo ?_ | refine rint ?_ | refine rrow ?_ | skip)) <;> (try first | omega | (simp; done) | ((repeat rw [flts_closed _ (by assumption)]); exact vws_closed _ (by assumption)))))
      unfold timesR
      rw [List.take_succ_eq_append_getElem h2, List.map_append, getD_lt h2]; rfl
    · have h2 := ltF h2
      obtain rfl : n = (m.getD i []).length := by omega
      conv => whnf
      refine ⟨by rw [hl]; simp [room]; omega, ?_⟩
      conv => whnf
      rw [nat_wrap (by omega)]
      refine ⟨i + 1, none, ?_, by omega, by omega⟩
      (refine ⟨rfl, rfl, ?_, ?_⟩ <;> ((repeat' (first | exact trivial | exact rfl | refine And.intro ?_ ?_)) <;> (try ((conv => whnf); first | refine vint ?_ | refine vboo ?_ | refine rint ?_ | refine rrow ?_ | skip)) <;> (try first | omega | (simp; done) | ((repeat rw [flts_closed _ (by assumption)]); exact vws_closed _ (by assumption)))))
      unfold timesL
      rw [List.take_succ_eq_append_getElem h, List.map_append, List.take_length, getD_lt h]; rfl
  · have h := ltF h
    obtain rfl : i = m.length := by omega
    conv => whnf
    exact ⟨rfl, by rw [List.take_length]⟩

def nsNum (k sh no : Int) (x y a b : Nat) : Int := W (W (sh * eqNum k x y a b) + no)
def nsM (k sh no : Int) : List (List Int) := boxRows (nsNum k sh no) 2 2
def nsW (sh no : Int) : Int := W (W (2 * sh) + W (4 * no))
def nsIn (k sh no : Int) : Bool := inR k 0 7 && inR sh 0 1000 && inR no 0 1000
def nsOk (k sh no : Int) : Bool := nsIn k sh no && goodB 2 2 (nsW sh no) (nsM k sh no)
def nsR (k sh no : Int) : List (List Int) := if nsOk k sh no then nsM k sh no else []
theorem nsM_sz (k sh no : Int) : SzM (nsM k sh no) := by
  have h1 : (nsM k sh no).length = 4 := boxRows_len _ 2 2
  have h2 := tot_le_mul (m := nsM k sh no) (n := 4) (fun q hq => by rw [boxRows_rows _ _ _ q hq]; omega)
  unfold SzM; omega

theorem nsNum_spec (k sh no : Int) (x y a b : Nat) (hx : x < 2) (hy : y < 2) (ha : a < 2) (hb : b < 2) :
    FSpec Try.prog 82 [.c (.int .i64 (x)), .c (.int .i64 (y)), .c (.int .i64 (a)), .c (.int .i64 (b)), .rp [.c (.int .i64 (sh))] 0, .rp [.c (.int .i64 (2)), .c (.int .i64 (2)), .c (.int .i64 (2)), .t (.rows (equalM k))] 0, .rp [.c (.int .i64 (no))] 0] (ex (.c (.int .i64 (nsNum k sh no x y a b))) []) := by
  have hl : (equalM k).length = 4 := boxRows_len _ 2 2
  have hr := boxRows_rows (eqNum k) 2 2 _ (getD_mem (d := []) (show x * 2 + y < (equalM k).length by omega))
  refine fspec tyOk mx Try.func82 rfl (by kernel_rfl) rfl ?_
  conv => whnf
  refine ADraw.plan tyOk mx (.q 0 (.q 1 (.q 2 (.q 3 (.q 4 (.q 5 (.q 8 (.last 6 (.q 7 (.q 9 (.q 10 (.done))))))))))) : Plan) (by kernel_rfl) ?_
  conv => whnf
  refine ACall.useR (at_spec 2 2 x y a b 2 (equalM k) (by omega) (by omega) (by show 2 * a + b < ((boxRows (eqNum k) 2 2).getD (x * 2 + y) []).length; rw [hr]; omega) (by omega)) ?_
  conv => whnf
  refine ⟨?_, rfl⟩
  rw [equalM, boxRows_get _ hx hy ha hb]; rfl

theorem NoisySum_i (k : Int) (_hk : InR k) (sh : Int) (_hs : InR sh) (no : Int) (_hn : InR no) : FSpec Try.prog 34 [.c (.int .i64 (k)), .c (.int .i64 (sh)), .c (.int .i64 (no))] (ex (.tu [.ag [.c (.int .i64 (if nsOk k sh no then 2 else 0)), .c (.int .i64 (if nsOk k sh no then 2 else 0)), .c (.int .i64 (if nsOk k sh no then nsW sh no else 0)), .own 0], .c (.bool (nsOk k sh no))]) [(0, .rows 23 3 true (nsR k sh no))]) := by
  refine view_box ?_
  refine fspec tyOk mx Try.func34 rfl (by kernel_rfl) rfl ?_
  conv => whnf
  refine ACall.use (within_spec _ _ _) ?_
  conv => whnf
  refine ⟨fun h1 => ?_, fun h1 => ?_⟩
  · have h1 : inR k 0 7 = true := by simpa using h1
    conv => whnf
    refine ACall.use (within_spec _ _ _) ?_
    conv => whnf
    refine ⟨fun h2 => ?_, fun h2 => ?_⟩
    · have h2 : inR sh 0 1000 = true := by simpa using h2
      conv => whnf
      refine ACall.use (within_spec _ _ _) ?_
      conv => whnf
      refine ⟨fun h3 => ?_, fun h3 => ?_⟩
      · have h3 : inR no 0 1000 = false := by simpa using h3
        have e : nsOk k sh no = false := by rw [nsOk, nsIn, h3]; simp
        conv => whnf
        exact .inl ⟨e, rfl, rfl⟩
      · have h3 : inR no 0 1000 = true := by simpa using h3
        have e : nsIn k sh no = true := by rw [nsIn, h1, h2, h3]; rfl
        conv => whnf
        refine ACall.use (equalSum_spec k) ?_
        conv => whnf
        refine ACall.use (newBox_spec 2 2 (nsW sh no) _ [.rp [.c (.int .i64 (sh))] 0, .rp [.c (.int .i64 (2)), .c (.int .i64 (2)), .c (.int .i64 (2)), .t (.rows (equalM k))] 0, .rp [.c (.int .i64 (no))] 0] (nsNum k sh no) (by omega) (by omega) (fun _ _ => rfl) rfl (fun i k' a b hi hk ha hb => nsNum_spec k sh no i k' a b hi hk ha hb)) ?_
        conv => whnf
        refine ACall.use (IsBox_spec 2 2 (nsW sh no) (nsM k sh no) (nsM_sz k sh no)) ?_
        conv => whnf
        refine ⟨fun h4 => ?_, fun h4 => ?_⟩
        · have h4 : goodB 2 2 (nsW sh no) (nsM k sh no) = false := by simpa using h4
          have e2 : nsOk k sh no = false := by rw [nsOk, h4, Bool.and_false]
          conv => whnf
          exact .inl ⟨e2, rfl, rfl⟩
        · have h4 : goodB 2 2 (nsW sh no) (nsM k sh no) = true := by simpa using h4
          have e2 : nsOk k sh no = true := by rw [nsOk, e, h4]; rfl
          conv => whnf
          exact .inr ⟨e2, rfl, rfl⟩
    · have h2 : inR sh 0 1000 = false := by simpa using h2
      have e : nsOk k sh no = false := by rw [nsOk, nsIn, h2]; simp
      (repeat (conv => whnf); (first | refine ⟨fun h => absurd h (by decide), fun _ => ?_⟩ | refine ⟨fun _ => ?_, fun h => absurd h (by decide)⟩)); conv => whnf
      exact .inl ⟨e, rfl, rfl⟩
  · have h1 : inR k 0 7 = false := by simpa using h1
    have e : nsOk k sh no = false := by rw [nsOk, nsIn, h1]; simp
    (repeat (conv => whnf); (first | refine ⟨fun h => absurd h (by decide), fun _ => ?_⟩ | refine ⟨fun _ => ?_, fun h => absurd h (by decide)⟩)); conv => whnf
    exact .inl ⟨e, rfl, rfl⟩
theorem l6Kind_spec (k : Int) : FSpec Try.prog 76 [.c (.int .i64 (k))] (ex (.c (.bool (inR k 0 7))) []) := by
  refine fspec tyOk mx Try.func76 rfl (by kernel_rfl) rfl ?_
  conv => whnf
  refine ACall.use (l1In_spec _ _ _) ?_
  conv => whnf
  exact ⟨rfl, rfl⟩
def tmNum (k sh : Int) (x y a b : Nat) : Int := W (Int.tdiv (W (eqNum k x y a b * sh)) 1)
theorem times_eq (k sh : Int) : timesL (equalM k) sh 1 = boxRows (tmNum k sh) 2 2 := rfl
theorem ns_end (k sh no : Int) : partW (fun v => W (v + no)) (timesL (equalM k) sh 1) 4 0 = nsM k sh no := by
  rw [times_eq, partW_all]
  unfold nsM
  congr 1
  funext x y a b
  unfold nsNum tmNum
  rw [tdiv_one, WW, Int.mul_comm]

theorem NoisySum_s (k : Int) (_hk : InR k) (sh : Int) (_hs : InR sh) (no : Int) (_hn : InR no) : FSpec Try.prog 33 [.c (.int .i64 (k)), .c (.int .i64 (sh)), .c (.int .i64 (no))] (ex (.tu [.ag [.c (.int .i64 (if nsOk k sh no then 2 else 0)), .c (.int .i64 (if nsOk k sh no then 2 else 0)), .c (.int .i64 (if nsOk k sh no then nsW sh no else 0)), .own 0], .c (.bool (nsOk k sh no))]) [(0, .rows 23 3 true (nsR k sh no))]) := by
  refine view_box ?_
  refine fspec tyOk mx Try.func33 rfl (by kernel_rfl) rfl ?_
  conv => whnf
  refine ACall.use (l6Kind_spec _) ?_
  conv => whnf
  refine ⟨fun h1 => ?_, fun h1 => ?_⟩
  · have h1 : inR k 0 7 = true := by simpa using h1
    conv => whnf
    refine ACall.use (l1In_spec _ _ _) ?_
    conv => whnf
    refine ⟨fun h2 => ?_, fun h2 => ?_⟩
    · have h2 : inR sh 0 1000 = true := by simpa using h2
      conv => whnf
      refine ACall.use (l1In_spec _ _ _) ?_
      conv => whnf
      refine ⟨fun h3 => ?_, fun h3 => ?_⟩
      · have h3 : inR no 0 1000 = true := by simpa using h3
        have e : nsIn k sh no = true := by rw [nsIn, h1, h2, h3]; rfl
        have k1 := inR_iff.1 h1
        have k2 := inR_iff.1 h2
        have k3 := inR_iff.1 h3
        conv => whnf
        refine ⟨fun h4 => ?_, fun h4 => ?_⟩
        · have h4 : W (sh + no) = 0 := by simpa using h4
          rw [show W (sh + no) = sh + no from w64 (by omega) (by omega)] at h4
          have e2 : nsOk k sh no = false := by
            have : sh = 0 := by omega
            have : no = 0 := by omega
            subst_vars
            rw [nsOk, goodB, show inR (nsW 0 0) 1 1000 = false from rfl]; simp
          conv => whnf
          exact .inl ⟨e2, rfl, rfl⟩
        · obtain ⟨kn, rfl⟩ : ∃ n : Nat, k = n := ⟨k.toNat, by omega⟩
          have hlen : (equalM kn).length = 4 := boxRows_len _ 2 2
          have hrw := boxRows_rows (eqNum kn) 2 2
          have ew : W (Int.tdiv (W (2 * sh)) 1) = W (2 * sh) := by rw [tdiv_one, WW]
          conv => whnf
          refine ACall.use (l6Sum_spec kn (by omega)) ?_
          conv => whnf
          refine ACall.use (l2Times_spec 2 2 2 (equalM kn) sh 1 (by decide) (by omega) (fun r hr => by rw [hrw r hr]; omega)) ?_
          rw [ew]
          conv => whnf
          refine aloopI tyOk mx (fun i : Nat => (⟨73, [(2, .c (.int .i64 (no))), (6, .ptr 0 0), (8, .ptr 3 0), (9, .c (.int .i64 (i)))], [(0, .cells 42 [.c (.int .i64 (0)), .c (.int .i64 (0)), .c (.int .i64 (0)), .c (.slice none 0 0)]), (2, .rows 23 3 true (partW (fun v => W (v + no)) (timesL (equalM kn) sh 1) i 0)), (3, .cells 42 [.c (.int .i64 (2)), .c (.int .i64 (2)), .c (.int .i64 (nsW sh no)), .own 2])], 4⟩ : St)) (fun i => i ≤ 4) (fun i => 4 - i) 0 (Nat.zero_le _) none (by refine ⟨rfl, rfl, ?_, ?_⟩ <;> ((repeat' (first | exact trivial | exact rfl | refine And.intro ?_ ?_)) <;> (try ((conv => whnf); first | refine vint ?_ | refine vboo ?_ | refine rint ?_ | refine rrow ?_ | skip)) <;> (try first | omega | (simp; done) | ((repeat rw [flts_closed _ (by assumption)]); exact vws_closed _ (by assumption))))) (fun i hi => ?_)
          have hl := partW_len (fun v => W (v + no)) (timesL (equalM kn) sh 1) i 0
          refine ⟨fun h => ?_, fun h => ?_⟩
          · have h : i < 4 := by have := ltT h; omega
            conv => whnf
            refine aloopI tyOk mx (fun n : Nat => (⟨73, [(2, .c (.int .i64 (no))), (6, .ptr 0 0), (8, .ptr 3 0), (9, .c (.int .i64 (i))), (10, .c (.int .i64 (n)))], [(0, .cells 42 [.c (.int .i64 (0)), .c (.int .i64 (0)), .c (.int .i64 (0)), .c (.slice none 0 0)]), (2, .rows 23 3 true (partW (fun v => W (v + no)) (timesL (equalM kn) sh 1) i n)), (3, .cells 42 [.c (.int .i64 (2)), .c (.int .i64 (2)), .c (.int .i64 (nsW sh no)), .own 2])], 4⟩ : St)) (fun n => n ≤ 4) (fun n => 4 - n) 0 (Nat.zero_le _) none (by refine ⟨rfl, rfl, ?_, ?_⟩ <;> ((repeat' (first | exact trivial | exact rfl | refine And.intro ?_ ?_)) <;> (try ((conv => whnf); first | refine vint ?_ | refine vboo ?_ | refine rint ?_ | refine rrow ?_ | skip)) <;> (try first | omega | (simp; done) | ((repeat rw [flts_closed _ (by assumption)]); exact vws_closed _ (by assumption))))) (fun n hn => ?_)
            have hl2 := partW_len (fun v => W (v + no)) (timesL (equalM kn) sh 1) i n
            have hr2 := partW_row (fun v => W (v + no)) (timesL (equalM kn) sh 1) (i := i) (n := n) h
            refine ⟨fun h5 => ?_, fun h5 => ?_⟩
            · have h5 : n < 4 := by have := of_decide_eq_true h5; omega
              refine ADraw.plan tyOk mx (.q 0 (.q 1 (.q 2 (.q 3 (.q 4 (.q 5 (.q 6 (.q 7 (.q 8 (.q 9 (.q 10 (.q 11 (.q 12 (.q 13 (.q 14 (.q 15 (.q 16 (.last 17 (.done)))))))))))))))))) : Plan) (by kernel_rfl) ?_
              conv => whnf
              repeat' (first | (refine ⟨i, rfl, by omega, ?_⟩; conv => whnf) | (refine ⟨n, rfl, by omega, ?_⟩; conv => whnf) | (refine And.intro ?_ ?_ <;> (conv => whnf)))
              all_goals
                rw [nat_wrap (by omega)]
                refine ⟨n + 1, none, ?_, by omega, by omega⟩
                (refine ⟨rfl, rfl, ?_, ?_⟩ <;> ((repeat' (first | exact trivial | exact rfl | refine And.intro ?_ ?_)) <;> (try ((conv => whnf); first | refine vint ?_ | refine vboo ?_ | refine rint ?_ | refine rrow ?_ | skip)) <;> (try first | omega | (simp; done) | ((repeat rw [flts_closed _ (by assumption)]); exact vws_closed _ (by assumption)))))
                exact partW_step (fun v => W (v + no)) _ h h5
            · have h5 : ¬ n < 4 := by have := of_decide_eq_false h5; omega
              obtain rfl : n = 4 := by omega
              conv => whnf
              rw [nat_wrap (by omega)]
              refine ⟨i + 1, none, ?_, by omega, by omega⟩
              (refine ⟨rfl, rfl, ?_, ?_⟩ <;> ((repeat' (first | exact trivial | exact rfl | refine And.intro ?_ ?_)) <;> (try ((conv => whnf); first | refine vint ?_ | refine vboo ?_ | refine rint ?_ | refine rrow ?_ | skip)) <;> (try first | omega | (simp; done) | ((repeat rw [flts_closed _ (by assumption)]); exact vws_closed _ (by assumption)))))
              exact partW_end _ _ h
          · have h : ¬ i < 4 := by have := ltF h; omega
            obtain rfl : i = 4 := by omega
            have en := ns_end kn sh no
            dsimp only at en ⊢
            rw [en]
            conv => whnf
            refine ACallS.inline tyOk mx Try.func79 rfl (by kernel_rfl) rfl ?_
            conv => whnf
            refine ACall.use (l2Box_spec 2 2 (nsW sh no) (nsM kn sh no) (nsM_sz kn sh no)) ?_
            conv => whnf
            refine ⟨fun h4 => ?_, fun h4 => ?_⟩
            · have h4 : goodB 2 2 (nsW sh no) (nsM kn sh no) = false := by simpa using h4
              have e2 : nsOk kn sh no = false := by rw [nsOk, h4, Bool.and_false]
              conv => whnf
              refine ⟨rfl, ?_⟩
              conv => whnf
              exact .inl ⟨e2, rfl, rfl⟩
            · have h4 : goodB 2 2 (nsW sh no) (nsM kn sh no) = true := by simpa using h4
              have e2 : nsOk kn sh no = true := by rw [nsOk, e, h4]; rfl
              conv => whnf
              refine ⟨rfl, ?_⟩
              conv => whnf
              exact .inr ⟨e2, rfl, rfl⟩
      · have h3 : inR no 0 1000 = false := by simpa using h3
        have e : nsOk k sh no = false := by rw [nsOk, nsIn, h3]; simp
        (repeat (conv => whnf); (first | refine ⟨fun h => absurd h (by decide), fun _ => ?_⟩ | refine ⟨fun _ => ?_, fun h => absurd h (by decide)⟩)); conv => whnf
        exact .inl ⟨e, rfl, rfl⟩
    · have h2 : inR sh 0 1000 = false := by simpa using h2
      have e : nsOk k sh no = false := by rw [nsOk, nsIn, h2]; simp
      (repeat (conv => whnf); (first | refine ⟨fun h => absurd h (by decide), fun _ => ?_⟩ | refine ⟨fun _ => ?_, fun h => absurd h (by decide)⟩)); conv => whnf
      exact .inl ⟨e, rfl, rfl⟩
  · have h1 : inR k 0 7 = false := by simpa using h1
    have e : nsOk k sh no = false := by rw [nsOk, nsIn, h1]; simp
    (repeat (conv => whnf); (first | refine ⟨fun h => absurd h (by decide), fun _ => ?_⟩ | refine ⟨fun _ => ?_, fun h => absurd h (by decide)⟩)); conv => whnf
    exact .inl ⟨e, rfl, rfl⟩
theorem NoisySum_bd (k : Int) (_hk : InR k) (sh : Int) (_hs : InR sh) (no : Int) (_hn : InR no) : (nsR k sh no).length ≤ 1048576 ∧ tot (nsR k sh no) ≤ 1048576 := by
  unfold nsR
  split
  · have := (nsM_sz k sh no).all
    omega
  · simp [tot]
end Go.Proofs.Ytgefdbihdliolaa
