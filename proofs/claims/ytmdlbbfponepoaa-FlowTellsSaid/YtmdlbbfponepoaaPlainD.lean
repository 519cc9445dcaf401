/- What chapter 3 says, in plain Lean. Conditions: none. -/
import Derived.Test.YtmdlbbfponepoaaPlainC
import Derived.RowKit
namespace Go.Proofs.Ytmdlbbfponepoaa
open Go.RowKit

def outB (least x : Int) : Bool := decide (x < least) || decide (1000000 < x)
def boundB (xs : List Int) (many least : Int) : Bool := decide ((xs.length : Int) = many) && !xs.any (outB least)
def timesL (seq : List Int) (k : Int) : Nat := (seq.filter (· == k)).length
def countL (n : Nat) (seq : List Int) : List Int := (List.range n).map fun (k : Nat) => (timesL seq (k : Int) : Int)
def dotL : List Int → List Int → Int
  | y :: ys, m :: ms => y * m + dotL ys ms
  | _, _ => 0
def effAt : List PTran → List Int → Nat → Int
  | t :: ts, c :: cs, p => c * (atL t.post p - atL t.pre p) + effAt ts cs p
  | _, _, _ => 0
def effectL (N : PNet) (counts : List Int) : List Int × Int :=
  if netOk N = true ∧ boundB counts N.trans.length 0 = true then ((List.range N.places.toNat).map fun p => wrap64 (effAt N.trans counts p), 0) else ([], 2)
def keptL (N : PNet) (y : List Int) : Bool :=
  netOk N && boundB y N.places (-1000000) && N.trans.all fun t => wrap64 (dotL y t.post) == wrap64 (dotL y t.pre)
def roundL (N : PNet) (counts : List Int) : Bool := (effectL N counts).2 == 0 && (effectL N counts).1.all (· == 0)

theorem wrap_add (a b : Int) : wrap64 (wrap64 a + b) = wrap64 (a + b) := by unfold wrap64; omega
theorem wrap_add' (a b : Int) : wrap64 (a + wrap64 b) = wrap64 (a + b) := by unfold wrap64; omega
theorem wrap_add2 (a b : Int) : wrap64 (wrap64 a + wrap64 b) = wrap64 (a + b) := by unfold wrap64; omega
theorem wrap_sub_zero (a b : Int) : (wrap64 (a - b) = 0) ↔ (wrap64 a = wrap64 b) := by unfold wrap64; omega

theorem timesL_snoc (l : List Int) (x k : Int) : timesL (l ++ [x]) k = timesL l k + (if x = k then 1 else 0) := by
  unfold timesL
  rw [List.filter_append, List.length_append]
  by_cases h : x = k <;> simp [h]
theorem timesL_le (l : List Int) (k : Int) : timesL l k ≤ l.length := List.length_filter_le _ _

theorem dotL_nil (y : List Int) : dotL y [] = 0 := by cases y <;> rfl
theorem dotL_take {y m : List Int} : ∀ {k : Nat} {a b : Int}, y[k]? = some a → m[k]? = some b → dotL (y.take (k + 1)) (m.take (k + 1)) = dotL (y.take k) (m.take k) + a * b := by
  induction y generalizing m with
  | nil => intro k a b h; simp at h
  | cons y0 ys ih =>
    intro k a b h g
    cases m with
    | nil => simp at g
    | cons m0 ms =>
      cases k with
      | zero => simp at h g; simp [dotL, h, g]
      | succ k =>
        simp only [List.getElem?_cons_succ] at h g
        simp only [List.take_succ_cons, dotL]
        rw [ih h g, Int.add_assoc]
theorem dotL_min {y m : List Int} {k : Nat} : min y.length m.length ≤ k → dotL (y.take k) (m.take k) = dotL y m := by
  induction y generalizing m k with
  | nil => intro _; simp [dotL]
  | cons y0 ys ih =>
    intro h
    cases m with
    | nil => simp [dotL]
    | cons m0 ms =>
      cases k with
      | zero => simp at h
      | succ k =>
        simp only [List.take_succ_cons, dotL]
        rw [ih (by simp at h; omega)]
theorem effAt_take {ts : List PTran} {cs : List Int} {p : Nat} : ∀ {k : Nat} {t : PTran} {c : Int}, ts[k]? = some t → cs[k]? = some c → effAt (ts.take (k + 1)) (cs.take (k + 1)) p = effAt (ts.take k) (cs.take k) p + c * (atL t.post p - atL t.pre p) := by
  induction ts generalizing cs with
  | nil => intro k t c h; simp at h
  | cons y0 ys ih =>
    intro k a b h g
    cases cs with
    | nil => simp at g
    | cons m0 ms =>
      cases k with
      | zero => simp at h g; simp [effAt, h, g]
      | succ k =>
        simp only [List.getElem?_cons_succ] at h g
        simp only [List.take_succ_cons, effAt]
        rw [ih h g, Int.add_assoc]
end Go.Proofs.Ytmdlbbfponepoaa
