/- Verification conditions: arrays of the program, shapes, lists. The program's functions of arrays, shapes and lists. What the functions compute: cells, order, grades, selection. Verification conditions: cells, order, grades, selection. -/
import Derived.Test.YthgnjimpakpkjaaD05
import Derived.Test.YthgnjimpakpkjaaD02
namespace Go.Proofs.Ythgnjimpakpkjaa
namespace A
def s83 : Spec := sp1 I64 fun n => ret .bool (F.rnum n)
theorem wp83 (n : Int) (H : Heap) :
    (wpF tb [] noA noA Try.f83 (ret .bool (F.rnum n)) [.val I64 n] H) = (
  (bif decide ((-4611686018427387903 : Int) ≤ n) then decide (n ≤ (4611686018427387903 : Int)) else false) = F.rnum n ∧ True) := by kernel_rfl

def s84 : Spec := sp1 I64 fun n => ret .bool (F.rune n)
theorem wp84 (n : Int) (H : Heap) :
    (wpF tb [] noA noA Try.f84 (ret .bool (F.rune n)) [.val I64 n] H) = (
  (bif bif decide ((0 : Int) ≤ n) then decide (n ≤ (1114111 : Int)) else false then bif decide (n < (55296 : Int)) then true else decide ((57343 : Int) < n) else false) = F.rune n ∧ True) := by kernel_rfl

def e108 (n : Int) : Eff := ret .bool (decide (n < 0))
def s108 : Spec := sp1 I64 e108
theorem wp108 (n : Int) (H : Heap) :
    (wpF tb [] noA noA Try.f108 (e108 n) [.val I64 n] H) = (
  decide (n < (0 : Int)) = decide (n < (0 : Int)) ∧ True) := by kernel_rfl

def s106 : Spec := sp1 AR fun y => ret I64 (F.rsize y)
theorem wp106 (y : Arr) (H : Heap) :
    (wpF tb [] noA noA Try.f106 (ret I64 (F.rsize y)) [.val AR y] H) = (
  (decide (y.kind = (1 : Int)) = true →
    (decide (y.kind = (1 : Int)) = true → (↑y.nums.length : Int) = F.rsize y ∧ True) ∧
      (decide (y.kind = (1 : Int)) = false →
        (decide (y.kind = (3 : Int)) = true → (↑y.items.length : Int) = F.rsize y ∧ True) ∧ (decide (y.kind = (3 : Int)) = false → (0 : Int) = F.rsize y ∧ True))) ∧
  (decide (y.kind = (1 : Int)) = false →
    (decide (y.kind = (2 : Int)) = true → (↑y.nums.length : Int) = F.rsize y ∧ True) ∧
      (decide (y.kind = (2 : Int)) = false → (decide (y.kind = (3 : Int)) = true → (↑y.items.length : Int) = F.rsize y ∧ True) ∧ (decide (y.kind = (3 : Int)) = false → (0 : Int) = F.rsize y ∧ True)))) := by kernel_rfl

def e118 (s : List Int) (v : Int) : Eff := ret I64 (F.find (fun d => decide (v = d)) s 0)
def s118 : Spec := sp2 SI I64 e118
def la118 (s : List Int) (v : Int) : Nat → Option (AState → Ann)
  | 2 => some (annT Nat (fun i => [(8, .val I64 (i : Int))]) (fun i => i ≤ s.length ∧ F.find (fun d => decide (v = d)) s 0 = F.find (fun d => decide (v = d)) (s.drop i) i) (fun i => s.length - i))
  | _ => none
theorem wp118 (s : List Int) (v : Int) (H : Heap) :
    (wpF tb [] (la118 s v) noA Try.f118 (e118 s v) [.val SI s, .val I64 v] H) = (
  (∃ (q0 : Nat), (q0 ≤ s.length ∧ F.find (fun (q1 : Int) => decide (v = q1)) s (0 : Int) = F.find (fun (q1 : Int) => decide (v = q1)) (List.drop q0 s) (↑q0 : Int)) ∧ (0 : Int) = (↑q0 : Int) ∧ True) ∧
  ∀ (q0 : Nat),
    q0 ≤ s.length ∧ F.find (fun (q1 : Int) => decide (v = q1)) s (0 : Int) = F.find (fun (q1 : Int) => decide (v = q1)) (List.drop q0 s) (↑q0 : Int) →
      (decide ((↑q0 : Int) < (↑s.length : Int)) = true →
          idxRange (↑q0 : Int) s.length ∧
            (decide (v = s.getD (↑q0 : Int).toNat (0 : Int)) = true → (↑q0 : Int) = F.find (fun (q4 : Int) => decide (v = q4)) s (0 : Int) ∧ True) ∧
              (decide (v = s.getD (↑q0 : Int).toNat (0 : Int)) = false →
                inR IntKind.i64 ((↑q0 : Int) + (1 : Int)) ∧
                  ∃ (q4 : Nat),
                    (q4 ≤ s.length ∧ F.find (fun (q5 : Int) => decide (v = q5)) s (0 : Int) = F.find (fun (q5 : Int) => decide (v = q5)) (List.drop q4 s) (↑q4 : Int)) ∧
                      s.length - q4 < s.length - q0 ∧ (↑q0 : Int) + (1 : Int) = (↑q4 : Int) ∧ True)) ∧
        (decide ((↑q0 : Int) < (↑s.length : Int)) = false → (-1 : Int) = F.find (fun (q3 : Int) => decide (v = q3)) s (0 : Int) ∧ True)) := by kernel_rfl

def e105 (s : List Int) (v : Int) : Eff := ret .bool (s.any fun d => decide (v = d))
def s105 : Spec := sp2 SI I64 e105
theorem wp105 (s : List Int) (v : Int) (H : Heap) :
    (wpF tb [(118, s118)] noA noA Try.f105 (e105 s v) [.val SI s, .val I64 v] H) = (
  (decide ((0 : Int) ≤ F.find (fun (q0 : Int) => decide (v = q0)) s (0 : Int)) = s.any fun (q0 : Int) => decide (v = q0)) ∧ True) := by kernel_rfl

def s73 : Spec := sp1 SI fun s => retP (F.sright s = true) I64 (F.sprod s)
def la73 (s : List Int) : Nat → Option (AState → Ann)
  | 5 => some (annT (Nat × Int) (fun p => [(3, .val I64 p.2), (10, .val I64 (p.1 : Int))]) (fun p => p.1 ≤ s.length ∧ F.sprod1 1 s = F.sprod1 p.2 (s.drop p.1) ∧ F.sright1 p.2 (s.drop p.1) = true ∧ 1 ≤ p.2 ∧ p.2 ≤ 65536) (fun p => s.length - p.1))
  | _ => none
theorem wp73 (s : List Int) (H : Heap) :
    (wpF tb [(105, s105)] (la73 s) noA Try.f73 (retP (F.sright s = true) I64 (F.sprod s)) [.val SI s] H) = (
  ((s.any fun (q0 : Int) => decide ((0 : Int) = q0)) = true → (0 : Int) = F.sprod s ∧ True) ∧
  ((s.any fun (q0 : Int) => decide ((0 : Int) = q0)) = false →
    (∃ (q1 : Nat × Int),
        (q1.fst ≤ s.length ∧ F.sprod1 (1 : Int) s = F.sprod1 q1.snd (List.drop q1.fst s) ∧ F.sright1 q1.snd (List.drop q1.fst s) = true ∧ (1 : Int) ≤ q1.snd ∧ q1.snd ≤ (65536 : Int)) ∧
          (1 : Int) = q1.snd ∧ (0 : Int) = (↑q1.fst : Int) ∧ True) ∧
      ∀ (q1 : Nat × Int),
        q1.fst ≤ s.length ∧ F.sprod1 (1 : Int) s = F.sprod1 q1.snd (List.drop q1.fst s) ∧ F.sright1 q1.snd (List.drop q1.fst s) = true ∧ (1 : Int) ≤ q1.snd ∧ q1.snd ≤ (65536 : Int) →
          (decide ((↑q1.fst : Int) < (↑s.length : Int)) = true →
              idxRange (↑q1.fst : Int) s.length ∧
                inR IntKind.i64 (q1.snd * s.getD (↑q1.fst : Int).toNat (0 : Int)) ∧
                  inR IntKind.i64 ((↑q1.fst : Int) + (1 : Int)) ∧
                    ∃ (q4 : Nat × Int),
                      (q4.fst ≤ s.length ∧ F.sprod1 (1 : Int) s = F.sprod1 q4.snd (List.drop q4.fst s) ∧ F.sright1 q4.snd (List.drop q4.fst s) = true ∧ (1 : Int) ≤ q4.snd ∧ q4.snd ≤ (65536 : Int)) ∧
                        s.length - q4.fst < s.length - q1.fst ∧ q1.snd * s.getD (↑q1.fst : Int).toNat (0 : Int) = q4.snd ∧ (↑q1.fst : Int) + (1 : Int) = (↑q4.fst : Int) ∧ True) ∧
            (decide ((↑q1.fst : Int) < (↑s.length : Int)) = false → q1.snd = F.sprod s ∧ True))) := by kernel_rfl

def s40 : Spec := sp1 SI fun s => ret .bool (F.sright s)
def la40 (s : List Int) : Nat → Option (AState → Ann)
  | 5 => some (annT (Nat × Int) (fun p => [(3, .val I64 p.2), (11, .val I64 (p.1 : Int))]) (fun p => p.1 ≤ s.length ∧ F.sright1 1 s = F.sright1 p.2 (s.drop p.1) ∧ 1 ≤ p.2 ∧ p.2 ≤ 65536) (fun p => s.length - p.1))
  | _ => none
theorem wp40 (s : List Int) (H : Heap) :
    (wpF tb [] (la40 s) noA Try.f40 (ret .bool (F.sright s)) [.val SI s] H) = (
  (decide ((8 : Int) < (↑s.length : Int)) = true → false = F.sright s ∧ True) ∧
  (decide ((8 : Int) < (↑s.length : Int)) = false →
    (∃ (q1 : Nat × Int),
        (q1.fst ≤ s.length ∧ F.sright1 (1 : Int) s = F.sright1 q1.snd (List.drop q1.fst s) ∧ (1 : Int) ≤ q1.snd ∧ q1.snd ≤ (65536 : Int)) ∧ (1 : Int) = q1.snd ∧ (0 : Int) = (↑q1.fst : Int) ∧ True) ∧
      ∀ (q1 : Nat × Int),
        q1.fst ≤ s.length ∧ F.sright1 (1 : Int) s = F.sright1 q1.snd (List.drop q1.fst s) ∧ (1 : Int) ≤ q1.snd ∧ q1.snd ≤ (65536 : Int) →
          (decide ((↑q1.fst : Int) < (↑s.length : Int)) = true →
              idxRange (↑q1.fst : Int) s.length ∧
                ((bif decide (s.getD (↑q1.fst : Int).toNat (0 : Int) < (0 : Int)) then true else decide ((65536 : Int) < s.getD (↑q1.fst : Int).toNat (0 : Int))) = true → false = F.sright s ∧ True) ∧
                  ((bif decide (s.getD (↑q1.fst : Int).toNat (0 : Int) < (0 : Int)) then true else decide ((65536 : Int) < s.getD (↑q1.fst : Int).toNat (0 : Int))) = false →
                    (decide (s.getD (↑q1.fst : Int).toNat (0 : Int) = (0 : Int)) = true →
                        inR IntKind.i64 ((↑q1.fst : Int) + (1 : Int)) ∧
                          ∃ (q6 : Nat × Int),
                            (q6.fst ≤ s.length ∧ F.sright1 (1 : Int) s = F.sright1 q6.snd (List.drop q6.fst s) ∧ (1 : Int) ≤ q6.snd ∧ q6.snd ≤ (65536 : Int)) ∧
                              s.length - q6.fst < s.length - q1.fst ∧ q1.snd = q6.snd ∧ (↑q1.fst : Int) + (1 : Int) = (↑q6.fst : Int) ∧ True) ∧
                      (decide (s.getD (↑q1.fst : Int).toNat (0 : Int) = (0 : Int)) = false →
                        inR IntKind.i64 (q1.snd * s.getD (↑q1.fst : Int).toNat (0 : Int)) ∧
                          (decide ((65536 : Int) < q1.snd * s.getD (↑q1.fst : Int).toNat (0 : Int)) = true → false = F.sright s ∧ True) ∧
                            (decide ((65536 : Int) < q1.snd * s.getD (↑q1.fst : Int).toNat (0 : Int)) = false →
                              inR IntKind.i64 ((↑q1.fst : Int) + (1 : Int)) ∧
                                ∃ (q7 : Nat × Int),
                                  (q7.fst ≤ s.length ∧ F.sright1 (1 : Int) s = F.sright1 q7.snd (List.drop q7.fst s) ∧ (1 : Int) ≤ q7.snd ∧ q7.snd ≤ (65536 : Int)) ∧
                                    s.length - q7.fst < s.length - q1.fst ∧ q1.snd * s.getD (↑q1.fst : Int).toNat (0 : Int) = q7.snd ∧ (↑q1.fst : Int) + (1 : Int) = (↑q7.fst : Int) ∧ True)))) ∧
            (decide ((↑q1.fst : Int) < (↑s.length : Int)) = false → true = F.sright s ∧ True))) := by kernel_rfl

def s42 : Spec := sp1 SI fun s => ret I64 (F.ssize s)
theorem wp42 (s : List Int) (H : Heap) :
    (wpF tb [(40, s40), (73, s73)] noA noA Try.f42 (ret I64 (F.ssize s)) [.val SI s] H) = (
  ((!F.sright s) = true → (-1 : Int) = F.ssize s ∧ True) ∧ ((!F.sright s) = false → F.sright s = true ∧ F.sprod s = F.ssize s ∧ True)) := by kernel_rfl

def s79 : Spec := sp2 SI I64 fun s n => ret2 I64 I64 (F.row s n).1 (F.row s n).2
theorem wp79 (s : List Int) (n : Int) (H : Heap) :
    (wpF tb [(40, s40), (73, s73)] noA noA Try.f79 (ret2 I64 I64 (F.row s n).1 (F.row s n).2) [.val SI s, .val I64 n] H) = (
  ((bif bif !F.sright s then true else decide (n < (0 : Int)) then true else decide ((↑s.length : Int) < n)) = true → (0 : Int) = (F.row s n).fst ∧ (0 : Int) = (F.row s n).snd ∧ True) ∧
  ((bif bif !F.sright s then true else decide (n < (0 : Int)) then true else decide ((↑s.length : Int) < n)) = false →
    ((0 : Int) ≤ (0 : Int) ∧ (0 : Int) ≤ n ∧ n ≤ (↑s.length : Int)) ∧
      F.sright (List.take n.toNat s) = true ∧
        ((0 : Int) ≤ n ∧ n ≤ (↑s.length : Int) ∧ (↑s.length : Int) ≤ (↑s.length : Int)) ∧
          F.sright (List.drop n.toNat s) = true ∧ F.sprod (List.take n.toNat s) = (F.row s n).fst ∧ F.sprod (List.drop n.toNat s) = (F.row s n).snd ∧ True)) := by kernel_rfl

def e47 (s t : List Int) : Eff := ret .bool (decide (s = t))
def s47 : Spec := sp2 SI SI e47
def la47 (s t : List Int) : Nat → Option (AState → Ann)
  | 4 => some (annT Nat (fun i => [(13, .val I64 (i : Int))]) (fun i => i ≤ s.length ∧ s.length = t.length ∧ decide (s = t) = decide (s.drop i = t.drop i)) (fun i => s.length - i))
  | _ => none
theorem wp47 (s t : List Int) (H : Heap) :
    (wpF tb [] (la47 s t) noA Try.f47 (e47 s t) [.val SI s, .val SI t] H) = (
  ((!decide ((↑s.length : Int) = (↑t.length : Int))) = true → false = decide (s = t) ∧ True) ∧
  ((!decide ((↑s.length : Int) = (↑t.length : Int))) = false →
    (∃ (q1 : Nat), (q1 ≤ s.length ∧ s.length = t.length ∧ decide (s = t) = decide (List.drop q1 s = List.drop q1 t)) ∧ (0 : Int) = (↑q1 : Int) ∧ True) ∧
      ∀ (q1 : Nat),
        q1 ≤ s.length ∧ s.length = t.length ∧ decide (s = t) = decide (List.drop q1 s = List.drop q1 t) →
          (decide ((↑q1 : Int) < (↑s.length : Int)) = true →
              idxRange (↑q1 : Int) s.length ∧
                idxRange (↑q1 : Int) t.length ∧
                  ((!decide (s.getD (↑q1 : Int).toNat (0 : Int) = t.getD (↑q1 : Int).toNat (0 : Int))) = true → false = decide (s = t) ∧ True) ∧
                    ((!decide (s.getD (↑q1 : Int).toNat (0 : Int) = t.getD (↑q1 : Int).toNat (0 : Int))) = false →
                      inR IntKind.i64 ((↑q1 : Int) + (1 : Int)) ∧
                        ∃ (q5 : Nat),
                          (q5 ≤ s.length ∧ s.length = t.length ∧ decide (s = t) = decide (List.drop q5 s = List.drop q5 t)) ∧
                            s.length - q5 < s.length - q1 ∧ (↑q1 : Int) + (1 : Int) = (↑q5 : Int) ∧ True)) ∧
            (decide ((↑q1 : Int) < (↑s.length : Int)) = false → true = decide (s = t) ∧ True))) := by kernel_rfl

def e76 (s : List Int) (pre : Int → Prop) (g : Int → Bool) : Eff := retP (∀ x ∈ s, pre x) I64 (F.find g s 0)
def s76 : Spec := spF1 SI I64 .bool e76
def la76 (s : List Int) (g : Int → Bool) : Nat → Option (AState → Ann)
  | 2 => some (annT Nat (fun i => [(8, .val I64 (i : Int))]) (fun i => i ≤ s.length ∧ F.find g s 0 = F.find g (s.drop i) i) (fun i => s.length - i))
  | _ => none
theorem wp76 (s : List Int) (pre : Int → Prop) (g : Int → Bool) (H : Heap) :
    (wpF tb [] (la76 s g) noA Try.f76 (e76 s pre g) [.val SI s, .fnp1 I64 .bool pre g] H) = (
  (∃ (q0 : Nat), (q0 ≤ s.length ∧ F.find g s (0 : Int) = F.find g (List.drop q0 s) (↑q0 : Int)) ∧ (0 : Int) = (↑q0 : Int) ∧ True) ∧
  ∀ (q0 : Nat),
    q0 ≤ s.length ∧ F.find g s (0 : Int) = F.find g (List.drop q0 s) (↑q0 : Int) →
      (decide ((↑q0 : Int) < (↑s.length : Int)) = true →
          idxRange (↑q0 : Int) s.length ∧
            pre (s.getD (↑q0 : Int).toNat (0 : Int)) ∧
              (g (s.getD (↑q0 : Int).toNat (0 : Int)) = true → (↑q0 : Int) = F.find g s (0 : Int) ∧ True) ∧
                (g (s.getD (↑q0 : Int).toNat (0 : Int)) = false →
                  inR IntKind.i64 ((↑q0 : Int) + (1 : Int)) ∧
                    ∃ (q4 : Nat), (q4 ≤ s.length ∧ F.find g s (0 : Int) = F.find g (List.drop q4 s) (↑q4 : Int)) ∧ s.length - q4 < s.length - q0 ∧ (↑q0 : Int) + (1 : Int) = (↑q4 : Int) ∧ True)) ∧
        (decide ((↑q0 : Int) < (↑s.length : Int)) = false → (-1 : Int) = F.find g s (0 : Int) ∧ True)) := by kernel_rfl

def e104 (s : List Arr) (pre : Arr → Prop) (g : Arr → Bool) : Eff := retP (∀ x ∈ s, pre x) I64 (F.find g s 0)
def s104 : Spec := spF1 SA AR .bool e104
def la104 (s : List Arr) (g : Arr → Bool) : Nat → Option (AState → Ann)
  | 2 => some (annT Nat (fun i => [(8, .val I64 (i : Int))]) (fun i => i ≤ s.length ∧ F.find g s 0 = F.find g (s.drop i) i) (fun i => s.length - i))
  | _ => none
theorem wp104 (s : List Arr) (pre : Arr → Prop) (g : Arr → Bool) (H : Heap) :
    (wpF tb [] (la104 s g) noA Try.f104 (e104 s pre g) [.val SA s, .fnp1 AR .bool pre g] H) = (
  (∃ (q0 : Nat), (q0 ≤ s.length ∧ F.find g s (0 : Int) = F.find g (List.drop q0 s) (↑q0 : Int)) ∧ (0 : Int) = (↑q0 : Int) ∧ True) ∧
  ∀ (q0 : Nat),
    q0 ≤ s.length ∧ F.find g s (0 : Int) = F.find g (List.drop q0 s) (↑q0 : Int) →
      (decide ((↑q0 : Int) < (↑s.length : Int)) = true →
          idxRange (↑q0 : Int) s.length ∧
            pre (s.getD (↑q0 : Int).toNat (Arr.mk (0 : Int) [] [] [])) ∧
              (g (s.getD (↑q0 : Int).toNat (Arr.mk (0 : Int) [] [] [])) = true → (↑q0 : Int) = F.find g s (0 : Int) ∧ True) ∧
                (g (s.getD (↑q0 : Int).toNat (Arr.mk (0 : Int) [] [] [])) = false →
                  inR IntKind.i64 ((↑q0 : Int) + (1 : Int)) ∧
                    ∃ (q4 : Nat), (q4 ≤ s.length ∧ F.find g s (0 : Int) = F.find g (List.drop q4 s) (↑q4 : Int)) ∧ s.length - q4 < s.length - q0 ∧ (↑q0 : Int) + (1 : Int) = (↑q4 : Int) ∧ True)) ∧
        (decide ((↑q0 : Int) < (↑s.length : Int)) = false → (-1 : Int) = F.find g s (0 : Int) ∧ True)) := by kernel_rfl

def e45 (s : List Int) (pre : Int → Prop) (g : Int → Bool) : Eff := retP (∀ x ∈ s, pre x) .bool (s.any g)
def s45 : Spec := spF1 SI I64 .bool e45
theorem wp45 (s : List Int) (pre : Int → Prop) (g : Int → Bool) (H : Heap) :
    (wpF tb [(76, s76)] noA noA Try.f45 (e45 s pre g) [.val SI s, .fnp1 I64 .bool pre g] H) = (
  (∀ (q0 : Int), q0 ∈ s → pre q0) ∧ decide ((0 : Int) ≤ F.find (fun (q0 : Int) => g q0) s (0 : Int)) = s.any g ∧ True) := by kernel_rfl

def e70 (s : List Arr) (pre : Arr → Prop) (g : Arr → Bool) : Eff := retP (∀ x ∈ s, pre x) .bool (s.any g)
def s70 : Spec := spF1 SA AR .bool e70
theorem wp70 (s : List Arr) (pre : Arr → Prop) (g : Arr → Bool) (H : Heap) :
    (wpF tb [(104, s104)] noA noA Try.f70 (e70 s pre g) [.val SA s, .fnp1 AR .bool pre g] H) = (
  (∀ (q0 : Arr), q0 ∈ s → pre q0) ∧ decide ((0 : Int) ≤ F.find (fun (q0 : Arr) => g q0) s (0 : Int)) = s.any g ∧ True) := by kernel_rfl

def e48 (l m : List Arr) (pre : Arr → Arr → Prop) (g : Arr → Arr → Bool) : Eff := retP (∀ x ∈ l, ∀ y ∈ m, pre x y) .bool (F.eqF g l m)
def s48 : Spec := spF2 SA SA AR AR .bool e48
def la48 (l m : List Arr) (g : Arr → Arr → Bool) : Nat → Option (AState → Ann)
  | 4 => some (annT Nat (fun i => [(17, .val I64 (i : Int))]) (fun i => i ≤ l.length ∧ l.length = m.length ∧ F.eqF g l m = F.eqF g (l.drop i) (m.drop i)) (fun i => l.length - i))
  | _ => none
theorem wp48 (l m : List Arr) (pre : Arr → Arr → Prop) (g : Arr → Arr → Bool) (H : Heap) :
    (wpF tb [] (la48 l m g) noA Try.f48 (e48 l m pre g) [.val SA l, .val SA m, .fnp2 AR AR .bool pre g] H) = (
  ((!decide ((↑l.length : Int) = (↑m.length : Int))) = true → false = F.eqF g l m ∧ True) ∧
  ((!decide ((↑l.length : Int) = (↑m.length : Int))) = false →
    (∃ (q1 : Nat), (q1 ≤ l.length ∧ l.length = m.length ∧ F.eqF g l m = F.eqF g (List.drop q1 l) (List.drop q1 m)) ∧ (0 : Int) = (↑q1 : Int) ∧ True) ∧
      ∀ (q1 : Nat),
        q1 ≤ l.length ∧ l.length = m.length ∧ F.eqF g l m = F.eqF g (List.drop q1 l) (List.drop q1 m) →
          (decide ((↑q1 : Int) < (↑l.length : Int)) = true →
              idxRange (↑q1 : Int) l.length ∧
                idxRange (↑q1 : Int) m.length ∧
                  pre (l.getD (↑q1 : Int).toNat (Arr.mk (0 : Int) [] [] [])) (m.getD (↑q1 : Int).toNat (Arr.mk (0 : Int) [] [] [])) ∧
                    ((!g (l.getD (↑q1 : Int).toNat (Arr.mk (0 : Int) [] [] [])) (m.getD (↑q1 : Int).toNat (Arr.mk (0 : Int) [] [] []))) = true → false = F.eqF g l m ∧ True) ∧
                      ((!g (l.getD (↑q1 : Int).toNat (Arr.mk (0 : Int) [] [] [])) (m.getD (↑q1 : Int).toNat (Arr.mk (0 : Int) [] [] []))) = false →
                        inR IntKind.i64 ((↑q1 : Int) + (1 : Int)) ∧
                          ∃ (q5 : Nat),
                            (q5 ≤ l.length ∧ l.length = m.length ∧ F.eqF g l m = F.eqF g (List.drop q5 l) (List.drop q5 m)) ∧
                              l.length - q5 < l.length - q1 ∧ (↑q1 : Int) + (1 : Int) = (↑q5 : Int) ∧ True)) ∧
            (decide ((↑q1 : Int) < (↑l.length : Int)) = false → true = F.eqF g l m ∧ True))) := by kernel_rfl

def s15 : Spec := sp2 AR AR fun x y => ret .bool (F.same x y)
theorem wp15 (x y : Arr) (H : Heap) (n : Nat) :
    (wpF tb ((15, sp2 AR AR fun x y => ltE (F.sz x < n) (ret .bool (F.same x y))) :: [(47, s47), (48, s48)]) noA noA Try.f15 (ret .bool (F.same x y)) [.val AR x, .val AR y] H) = (
  ((bif bif decide (x.kind = y.kind) then decide (x.shape = y.shape) else false then decide (x.nums = y.nums) else false) = true →
    ∀ (q1 : Arr), q1 ∈ x.items → ∀ (q3 : Arr), q3 ∈ y.items → F.sz q1 < n ∧ True) ∧
  (bif bif bif decide (x.kind = y.kind) then decide (x.shape = y.shape) else false then decide (x.nums = y.nums) else false then F.eqF (fun (q0 q1 : Arr) => F.same q0 q1) x.items y.items else false) =
      F.same x y ∧
    True) := by kernel_rfl

def s74 : Spec := sp1 AR fun y => ret I64 (F.aweight y)
def la74 (y : Arr) : Nat → Option (AState → Ann)
  | 5 => some (annT (Nat × Int) (fun p => [(3, .val I64 p.2), (16, .val I64 (p.1 : Int))]) (fun p => p.1 ≤ y.items.length ∧ F.aweightL (min (F.rsize y) 262145) y.items = F.aweightL p.2 (y.items.drop p.1) ∧ 0 ≤ p.2 ∧ p.2 ≤ 262145) (fun p => y.items.length - p.1))
  | _ => none
theorem wp74 (y : Arr) (H : Heap) (n : Nat) :
    (wpF tb ((74, sp1 AR fun y => ltE (F.sz y < n) (ret I64 (F.aweight y))) :: [(106, s106)]) (la74 y) noA Try.f74 (ret I64 (F.aweight y)) [.val AR y] H) = (
  ((!decide (y.kind = (3 : Int))) = true → min (F.rsize y) (262145 : Int) = F.aweight y ∧ True) ∧
  ((!decide (y.kind = (3 : Int))) = false →
    (∃ (q1 : Nat × Int),
        (q1.fst ≤ y.items.length ∧ F.aweightL (min (F.rsize y) (262145 : Int)) y.items = F.aweightL q1.snd (List.drop q1.fst y.items) ∧ (0 : Int) ≤ q1.snd ∧ q1.snd ≤ (262145 : Int)) ∧
          min (F.rsize y) (262145 : Int) = q1.snd ∧ (0 : Int) = (↑q1.fst : Int) ∧ True) ∧
      ∀ (q1 : Nat × Int),
        q1.fst ≤ y.items.length ∧ F.aweightL (min (F.rsize y) (262145 : Int)) y.items = F.aweightL q1.snd (List.drop q1.fst y.items) ∧ (0 : Int) ≤ q1.snd ∧ q1.snd ≤ (262145 : Int) →
          (decide ((↑q1.fst : Int) < (↑y.items.length : Int)) = true →
              idxRange (↑q1.fst : Int) y.items.length ∧
                (decide ((262144 : Int) < q1.snd) = true → q1.snd = F.aweight y ∧ True) ∧
                  (decide ((262144 : Int) < q1.snd) = false →
                    F.sz (y.items.getD (↑q1.fst : Int).toNat (Arr.mk (0 : Int) [] [] [])) < n ∧
                      inR IntKind.i64 (q1.snd + F.aweight (y.items.getD (↑q1.fst : Int).toNat (Arr.mk (0 : Int) [] [] []))) ∧
                        inR IntKind.i64 ((↑q1.fst : Int) + (1 : Int)) ∧
                          ∃ (q5 : Nat × Int),
                            (q5.fst ≤ y.items.length ∧
                                F.aweightL (min (F.rsize y) (262145 : Int)) y.items = F.aweightL q5.snd (List.drop q5.fst y.items) ∧ (0 : Int) ≤ q5.snd ∧ q5.snd ≤ (262145 : Int)) ∧
                              y.items.length - q5.fst < y.items.length - q1.fst ∧
                                min (q1.snd + F.aweight (y.items.getD (↑q1.fst : Int).toNat (Arr.mk (0 : Int) [] [] []))) (262145 : Int) = q5.snd ∧
                                  (↑q1.fst : Int) + (1 : Int) = (↑q5.fst : Int) ∧ True)) ∧
            (decide ((↑q1.fst : Int) < (↑y.items.length : Int)) = false → q1.snd = F.aweight y ∧ True))) := by kernel_rfl

def s82 : Spec := sp1 AR fun y => ret I64 (F.form y)
theorem wp82 (y : Arr) (H : Heap) :
    (wpF tb [(45, s45), (108, s108), (40, s40), (42, s42)] noA noA Try.f82 (ret I64 (F.form y)) [.val AR y] H) = (
  (decide (y.kind = (1 : Int)) = true →
    (decide (y.kind = (1 : Int)) = true →
        (decide ((8 : Int) < (↑y.shape.length : Int)) = true → (15 : Int) = F.form y ∧ True) ∧
          (decide ((8 : Int) < (↑y.shape.length : Int)) = false →
            (∀ (q3 : Int), q3 ∈ y.shape → True) ∧
              ((y.shape.any fun (q3 : Int) => decide (q3 < (0 : Int))) = true → (16 : Int) = F.form y ∧ True) ∧
                ((y.shape.any fun (q3 : Int) => decide (q3 < (0 : Int))) = false →
                  ((!F.sright y.shape) = true → (21 : Int) = F.form y ∧ True) ∧
                    ((!F.sright y.shape) = false →
                      ((bif !decide ((↑y.nums.length : Int) = F.ssize y.shape) then true else !decide ((↑y.items.length : Int) = (0 : Int))) = true → (16 : Int) = F.form y ∧ True) ∧
                        ((bif !decide ((↑y.nums.length : Int) = F.ssize y.shape) then true else !decide ((↑y.items.length : Int) = (0 : Int))) = false → (0 : Int) = F.form y ∧ True))))) ∧
      (decide (y.kind = (1 : Int)) = false →
        (decide (y.kind = (3 : Int)) = true →
            (decide ((8 : Int) < (↑y.shape.length : Int)) = true → (15 : Int) = F.form y ∧ True) ∧
              (decide ((8 : Int) < (↑y.shape.length : Int)) = false →
                (∀ (q4 : Int), q4 ∈ y.shape → True) ∧
                  ((y.shape.any fun (q4 : Int) => decide (q4 < (0 : Int))) = true → (16 : Int) = F.form y ∧ True) ∧
                    ((y.shape.any fun (q4 : Int) => decide (q4 < (0 : Int))) = false →
                      ((!F.sright y.shape) = true → (21 : Int) = F.form y ∧ True) ∧
                        ((!F.sright y.shape) = false →
                          ((bif !decide ((↑y.items.length : Int) = F.ssize y.shape) then true else !decide ((↑y.nums.length : Int) = (0 : Int))) = true → (16 : Int) = F.form y ∧ True) ∧
                            ((bif !decide ((↑y.items.length : Int) = F.ssize y.shape) then true else !decide ((↑y.nums.length : Int) = (0 : Int))) = false → (0 : Int) = F.form y ∧ True))))) ∧
          (decide (y.kind = (3 : Int)) = false → (14 : Int) = F.form y ∧ True))) ∧
  (decide (y.kind = (1 : Int)) = false →
    (decide (y.kind = (2 : Int)) = true →
        (decide ((8 : Int) < (↑y.shape.length : Int)) = true → (15 : Int) = F.form y ∧ True) ∧
          (decide ((8 : Int) < (↑y.shape.length : Int)) = false →
            (∀ (q3 : Int), q3 ∈ y.shape → True) ∧
              ((y.shape.any fun (q3 : Int) => decide (q3 < (0 : Int))) = true → (16 : Int) = F.form y ∧ True) ∧
                ((y.shape.any fun (q3 : Int) => decide (q3 < (0 : Int))) = false →
                  ((!F.sright y.shape) = true → (21 : Int) = F.form y ∧ True) ∧
                    ((!F.sright y.shape) = false →
                      ((bif !decide ((↑y.nums.length : Int) = F.ssize y.shape) then true else !decide ((↑y.items.length : Int) = (0 : Int))) = true → (16 : Int) = F.form y ∧ True) ∧
                        ((bif !decide ((↑y.nums.length : Int) = F.ssize y.shape) then true else !decide ((↑y.items.length : Int) = (0 : Int))) = false → (0 : Int) = F.form y ∧ True))))) ∧
      (decide (y.kind = (2 : Int)) = false →
        (decide (y.kind = (3 : Int)) = true →
            (decide ((8 : Int) < (↑y.shape.length : Int)) = true → (15 : Int) = F.form y ∧ True) ∧
              (decide ((8 : Int) < (↑y.shape.length : Int)) = false →
                (∀ (q4 : Int), q4 ∈ y.shape → True) ∧
                  ((y.shape.any fun (q4 : Int) => decide (q4 < (0 : Int))) = true → (16 : Int) = F.form y ∧ True) ∧
                    ((y.shape.any fun (q4 : Int) => decide (q4 < (0 : Int))) = false →
                      ((!F.sright y.shape) = true → (21 : Int) = F.form y ∧ True) ∧
                        ((!F.sright y.shape) = false →
                          ((bif !decide ((↑y.items.length : Int) = F.ssize y.shape) then true else !decide ((↑y.nums.length : Int) = (0 : Int))) = true → (16 : Int) = F.form y ∧ True) ∧
                            ((bif !decide ((↑y.items.length : Int) = F.ssize y.shape) then true else !decide ((↑y.nums.length : Int) = (0 : Int))) = false → (0 : Int) = F.form y ∧ True))))) ∧
          (decide (y.kind = (3 : Int)) = false → (14 : Int) = F.form y ∧ True)))) := by kernel_rfl

def s75 : Spec := sp1 AR fun y => ret AR y
def la75 (y : Arr) : Nat → Option (AState → Ann)
  | 5 => some fun _ => { P := Nat, vars := fun i => [(34, .val I64 (i : Int))], objs := fun i => [(3, .st (.ofL [.val I64 y.kind, .own I64 y.shape, .own I64 y.nums, .own AR (y.items.take i ++ List.replicate (y.items.length - i) (Arr.mk 0 [] [] []))]))], inv := fun i => i ≤ y.items.length ∧ True, mea := fun i => y.items.length - i }
  | _ => none
theorem wp75 (y : Arr) (H : Heap) (n : Nat) :
    (wpF tb ((75, sp1 AR fun y => ltE (F.sz y < n) (ret AR y)) :: []) (la75 y) noA Try.f75 (ret AR y) [.val AR y] H) = (
  ((0 : Int) ≤ (↑y.shape.length : Int) ∧ (↑y.shape.length : Int) ≤ (↑y.shape.length : Int) ∧ (↑y.shape.length : Int) < (↑LIM : Int)) ∧
  ((0 : Int) ≤ (↑y.nums.length : Int) ∧ (↑y.nums.length : Int) ≤ (↑y.nums.length : Int) ∧ (↑y.nums.length : Int) < (↑LIM : Int)) ∧
    ((0 : Int) ≤ (↑y.items.length : Int) ∧ (↑y.items.length : Int) ≤ (↑y.items.length : Int) ∧ (↑y.items.length : Int) < (↑LIM : Int)) ∧
      (∃ (q0 : Nat),
          (q0 ≤ y.items.length ∧ True) ∧
            (0 : Int) = (↑q0 : Int) ∧
              y.kind = y.kind ∧
                List.take (List.replicate (↑y.shape.length : Int).toNat (0 : Int)).length y.shape ++ List.drop y.shape.length (List.replicate (↑y.shape.length : Int).toNat (0 : Int)) = y.shape ∧
                  List.take (List.replicate (↑y.nums.length : Int).toNat (0 : Int)).length y.nums ++ List.drop y.nums.length (List.replicate (↑y.nums.length : Int).toNat (0 : Int)) = y.nums ∧
                    List.replicate (↑y.items.length : Int).toNat (Arr.mk (0 : Int) [] [] []) = List.take q0 y.items ++ List.replicate (y.items.length - q0) (Arr.mk (0 : Int) [] [] []) ∧ True) ∧
        ∀ (q0 : Nat),
          q0 ≤ y.items.length ∧ True →
            (decide ((↑q0 : Int) < (↑y.items.length : Int)) = true →
                idxRange (↑q0 : Int) y.items.length ∧
                  F.sz (y.items.getD (↑q0 : Int).toNat (Arr.mk (0 : Int) [] [] [])) < n ∧
                    idxRange (↑q0 : Int) (List.take q0 y.items ++ List.replicate (y.items.length - q0) (Arr.mk (0 : Int) [] [] [])).length ∧
                      inR IntKind.i64 ((↑q0 : Int) + (1 : Int)) ∧
                        ∃ (q3 : Nat),
                          (q3 ≤ y.items.length ∧ True) ∧
                            y.items.length - q3 < y.items.length - q0 ∧
                              (↑q0 : Int) + (1 : Int) = (↑q3 : Int) ∧
                                y.kind = y.kind ∧
                                  y.shape = y.shape ∧
                                    y.nums = y.nums ∧
                                      (List.take q0 y.items ++ List.replicate (y.items.length - q0) (Arr.mk (0 : Int) [] [] [])).set (↑q0 : Int).toNat
                                            (y.items.getD (↑q0 : Int).toNat (Arr.mk (0 : Int) [] [] [])) =
                                          List.take q3 y.items ++ List.replicate (y.items.length - q3) (Arr.mk (0 : Int) [] [] []) ∧
                                        True) ∧
              (decide ((↑q0 : Int) < (↑y.items.length : Int)) = false →
                Arr.mk y.kind y.shape y.nums (List.take q0 y.items ++ List.replicate (y.items.length - q0) (Arr.mk (0 : Int) [] [] [])) = y ∧ True)) := by kernel_rfl

def s35 : Spec := sp1 SI fun s => retO I64 s
theorem wp35 (s : List Int) (H : Heap) :
    (wpF tb [] noA noA Try.f35 (retO I64 s) [.val SI s] H) = (
  (s.length = (0 : Nat) → (true = true → [] = s ∧ True) ∧ (true = false → ([] ++ s).length < LIM ∧ [] ++ s = s ∧ True)) ∧
  ((!true) = true → [] = s ∧ True) ∧ ((!true) = false → ([] ++ s).length < LIM ∧ [] ++ s = s ∧ True)) := by kernel_rfl

theorem wp69 (n : Int) (H : Heap) :
    (wpF tb [] noA noA Try.f69 (⟨[mkok n n], .own I64 [], []⟩ : Eff) [.nils, .val I64 n] H) = (
  (decide (n < (0 : Int)) = true →
    False ∧
      inR IntKind.i64 ((0 : Int) - (0 : Int)) ∧
        inR IntKind.i64 (n - ((0 : Int) - (0 : Int))) ∧
          (decide ((0 : Int) < n - ((0 : Int) - (0 : Int))) = true →
              ((0 : Int) = (0 : Int) ∧ (0 : Int) = (0 : Int)) ∧
                ((0 : Int) ≤ n - ((0 : Int) - (0 : Int)) ∧ n - ((0 : Int) - (0 : Int)) ≤ n - ((0 : Int) - (0 : Int)) ∧ n - ((0 : Int) - (0 : Int)) < (↑LIM : Int)) ∧
                  ((0 : Int) ≤ (0 : Int) ∧ (0 : Int) ≤ (↑(List.replicate (n - ((0 : Int) - (0 : Int))).toNat (0 : Int)).length : Int)) ∧
                    List.take (Int.toNat (0 : Int)) (List.replicate (n - ((0 : Int) - (0 : Int))).toNat (0 : Int)) = [] ∧ True) ∧
            (decide ((0 : Int) < n - ((0 : Int) - (0 : Int))) = false → ([] : List Int) = [] ∧ True)) ∧
  (decide (n < (0 : Int)) = false →
    inR IntKind.i64 ((0 : Int) - (0 : Int)) ∧
      inR IntKind.i64 (n - ((0 : Int) - (0 : Int))) ∧
        (decide ((0 : Int) < n - ((0 : Int) - (0 : Int))) = true →
            ((0 : Int) = (0 : Int) ∧ (0 : Int) = (0 : Int)) ∧
              ((0 : Int) ≤ n - ((0 : Int) - (0 : Int)) ∧ n - ((0 : Int) - (0 : Int)) ≤ n - ((0 : Int) - (0 : Int)) ∧ n - ((0 : Int) - (0 : Int)) < (↑LIM : Int)) ∧
                ((0 : Int) ≤ (0 : Int) ∧ (0 : Int) ≤ (↑(List.replicate (n - ((0 : Int) - (0 : Int))).toNat (0 : Int)).length : Int)) ∧
                  List.take (Int.toNat (0 : Int)) (List.replicate (n - ((0 : Int) - (0 : Int))).toNat (0 : Int)) = [] ∧ True) ∧
          (decide ((0 : Int) < n - ((0 : Int) - (0 : Int))) = false → ([] : List Int) = [] ∧ True))) := by kernel_rfl

def s38 : Spec := sp1 (.sl SI) fun l => retPO ((List.flatten (α := Int) l).length < 4294967296) I64 (List.flatten (α := Int) l)
def la38 (l : List (List Int)) : Nat → Option (AState → Ann)
  | 3 => some (annT Nat (fun i => [(11, .val I64 (i : Int)), (3, .val I64 ((l.take i).flatten.length : Int))]) (fun i => i ≤ l.length ∧ True) (fun i => l.length - i))
  | 11 => some (annT Nat (fun i => [(27, .val I64 (i : Int)), (6, .own I64 (l.take i).flatten)]) (fun i => i ≤ l.length ∧ True) (fun i => l.length - i))
  | _ => none
theorem wp38 (l : List (List Int)) (H : Heap) :
    (wpF tb [(69, spGrow), (100069, spMark)] (la38 l) noA Try.f38 (retPO (l.flatten.length < 4294967296) I64 l.flatten) [.val (.sl SI) l] H) = (
  (∃ (q0 : Nat), (q0 ≤ l.length ∧ True) ∧ (0 : Int) = (↑q0 : Int) ∧ (0 : Int) = (↑(List.take q0 l).flatten.length : Int) ∧ True) ∧
  ∀ (q0 : Nat),
    q0 ≤ l.length ∧ True →
      (decide ((↑q0 : Int) < (↑l.length : Int)) = true →
          idxRange (↑q0 : Int) l.length ∧
            inR IntKind.i64 ((↑(List.take q0 l).flatten.length : Int) + (↑(l.getD (↑q0 : Int).toNat []).length : Int)) ∧
              (decide ((↑(List.take q0 l).flatten.length : Int) + (↑(l.getD (↑q0 : Int).toNat []).length : Int) < (0 : Int)) = true →
                  False ∧
                    inR IntKind.i64 ((↑q0 : Int) + (1 : Int)) ∧
                      ∃ (q4 : Nat),
                        (q4 ≤ l.length ∧ True) ∧
                          l.length - q4 < l.length - q0 ∧
                            (↑q0 : Int) + (1 : Int) = (↑q4 : Int) ∧
                              (↑(List.take q0 l).flatten.length : Int) + (↑(l.getD (↑q0 : Int).toNat []).length : Int) = (↑(List.take q4 l).flatten.length : Int) ∧ True) ∧
                (decide ((↑(List.take q0 l).flatten.length : Int) + (↑(l.getD (↑q0 : Int).toNat []).length : Int) < (0 : Int)) = false →
                  inR IntKind.i64 ((↑q0 : Int) + (1 : Int)) ∧
                    ∃ (q4 : Nat),
                      (q4 ≤ l.length ∧ True) ∧
                        l.length - q4 < l.length - q0 ∧
                          (↑q0 : Int) + (1 : Int) = (↑q4 : Int) ∧
                            (↑(List.take q0 l).flatten.length : Int) + (↑(l.getD (↑q0 : Int).toNat []).length : Int) = (↑(List.take q4 l).flatten.length : Int) ∧ True)) ∧
        (decide ((↑q0 : Int) < (↑l.length : Int)) = false →
          ((0 : Int) ≤ (↑(List.take q0 l).flatten.length : Int) ∧
              (↑(List.take q0 l).flatten.length : Int) ≤ (↑(List.take q0 l).flatten.length : Int) ∧ (↑(List.take q0 l).flatten.length : Int) < (↑LIM : Int)) ∧
            (∃ (q3 : Nat), (q3 ≤ l.length ∧ True) ∧ (0 : Int) = (↑q3 : Int) ∧ [] = (List.take q3 l).flatten ∧ True) ∧
              ∀ (q3 : Nat),
                q3 ≤ l.length ∧ True →
                  (decide ((↑q3 : Int) < (↑l.length : Int)) = true →
                      idxRange (↑q3 : Int) l.length ∧
                        ((List.take q3 l).flatten ++ l.getD (↑q3 : Int).toNat []).length < LIM ∧
                          inR IntKind.i64 ((↑q3 : Int) + (1 : Int)) ∧
                            ∃ (q6 : Nat),
                              (q6 ≤ l.length ∧ True) ∧
                                l.length - q6 < l.length - q3 ∧ (↑q3 : Int) + (1 : Int) = (↑q6 : Int) ∧ (List.take q3 l).flatten ++ l.getD (↑q3 : Int).toNat [] = (List.take q6 l).flatten ∧ True) ∧
                    (decide ((↑q3 : Int) < (↑l.length : Int)) = false → (List.take q3 l).flatten = l.flatten ∧ True))) := by kernel_rfl

def e81 (y : Arr) : Eff := ret3 I64 I64 I64 (F.visit y).1 (F.visit y).2.1 (F.visit y).2.2
def la81 (y : Arr) : Nat → Option (AState → Ann)
  | 5 => some (annT Nat (fun i => [(24, .val I64 (i : Int))]) (fun i => i ≤ y.nums.length ∧ F.badL y.kind y.nums = F.badL y.kind (y.nums.drop i)) (fun i => y.nums.length - i))
  | 12 => some (annT (Nat × Int × Int) (fun p => [(57, .val I64 (p.1 : Int)), (9, .val I64 p.2.1), (10, .val I64 p.2.2)]) (fun p => p.1 ≤ y.items.length ∧ F.visitL 0 ((y.nums.length : Int) + (y.items.length : Int)) y.items = F.visitL p.2.1 p.2.2 (y.items.drop p.1) ∧ 0 ≤ p.2.1 ∧ p.2.1 ≤ 17 ∧ 0 ≤ p.2.2 ∧ p.2.2 ≤ 17179869184) (fun p => y.items.length - p.1))
  | _ => none
theorem wp81 (y : Arr) (H : Heap) (n : Nat) :
    (wpA tb ((81, spVisit fun y => ltE (F.sz y < n) (e81 y)) :: [(82, s82), (83, s83), (84, s84)]) false [] (la81 y) noA (body Try.f81) (retQ tb Try.f81.results.toList (e81 y) (knw [(500000, .live visitC)] H)) (entry [.val AR y, .ref 500000 0] (knw [(500000, .live visitC)] H))) = (
  ((!decide (F.form y = (0 : Int))) = true → F.form y = (F.visit y).fst ∧ (0 : Int) = (F.visit y).snd.fst ∧ (0 : Int) = (F.visit y).snd.snd ∧ True) ∧
  ((!decide (F.form y = (0 : Int))) = false →
    (∃ (q1 : Nat), (q1 ≤ y.nums.length ∧ F.badL y.kind y.nums = F.badL y.kind (List.drop q1 y.nums)) ∧ (0 : Int) = (↑q1 : Int) ∧ True) ∧
      ∀ (q1 : Nat),
        q1 ≤ y.nums.length ∧ F.badL y.kind y.nums = F.badL y.kind (List.drop q1 y.nums) →
          (decide ((↑q1 : Int) < (↑y.nums.length : Int)) = true →
              idxRange (↑q1 : Int) y.nums.length ∧
                ((bif bif decide (y.kind = (1 : Int)) then !F.rnum (y.nums.getD (↑q1 : Int).toNat (0 : Int)) else false then true
                      else bif decide (y.kind = (2 : Int)) then !F.rune (y.nums.getD (↑q1 : Int).toNat (0 : Int)) else false) =
                      true →
                    (17 : Int) = (F.visit y).fst ∧ (0 : Int) = (F.visit y).snd.fst ∧ (0 : Int) = (F.visit y).snd.snd ∧ True) ∧
                  ((bif bif decide (y.kind = (1 : Int)) then !F.rnum (y.nums.getD (↑q1 : Int).toNat (0 : Int)) else false then true
                      else bif decide (y.kind = (2 : Int)) then !F.rune (y.nums.getD (↑q1 : Int).toNat (0 : Int)) else false) =
                      false →
                    inR IntKind.i64 ((↑q1 : Int) + (1 : Int)) ∧
                      ∃ (q5 : Nat),
                        (q5 ≤ y.nums.length ∧ F.badL y.kind y.nums = F.badL y.kind (List.drop q5 y.nums)) ∧ y.nums.length - q5 < y.nums.length - q1 ∧ (↑q1 : Int) + (1 : Int) = (↑q5 : Int) ∧ True)) ∧
            (decide ((↑q1 : Int) < (↑y.nums.length : Int)) = false →
              inR IntKind.i64 ((↑y.nums.length : Int) + (↑y.items.length : Int)) ∧
                (∃ (q4 : Nat × Int × Int),
                    (q4.fst ≤ y.items.length ∧
                        F.visitL (0 : Int) ((↑y.nums.length : Int) + (↑y.items.length : Int)) y.items = F.visitL q4.snd.fst q4.snd.snd (List.drop q4.fst y.items) ∧
                          (0 : Int) ≤ q4.snd.fst ∧ q4.snd.fst ≤ (17 : Int) ∧ (0 : Int) ≤ q4.snd.snd ∧ q4.snd.snd ≤ (17179869184 : Int)) ∧
                      (0 : Int) = (↑q4.fst : Int) ∧ (0 : Int) = q4.snd.fst ∧ (↑y.nums.length : Int) + (↑y.items.length : Int) = q4.snd.snd ∧ True) ∧
                  ∀ (q4 : Nat × Int × Int),
                    q4.fst ≤ y.items.length ∧
                        F.visitL (0 : Int) ((↑y.nums.length : Int) + (↑y.items.length : Int)) y.items = F.visitL q4.snd.fst q4.snd.snd (List.drop q4.fst y.items) ∧
                          (0 : Int) ≤ q4.snd.fst ∧ q4.snd.fst ≤ (17 : Int) ∧ (0 : Int) ≤ q4.snd.snd ∧ q4.snd.snd ≤ (17179869184 : Int) →
                      (decide ((↑q4.fst : Int) < (↑y.items.length : Int)) = true →
                          idxRange (↑q4.fst : Int) y.items.length ∧
                            F.sz (y.items.getD (↑q4.fst : Int).toNat (Arr.mk (0 : Int) [] [] [])) < n ∧
                              ((!decide ((F.visit (y.items.getD (↑q4.fst : Int).toNat (Arr.mk (0 : Int) [] [] []))).fst = (0 : Int))) = true →
                                  (17 : Int) = (F.visit y).fst ∧ (0 : Int) = (F.visit y).snd.fst ∧ (0 : Int) = (F.visit y).snd.snd ∧ True) ∧
                                ((!decide ((F.visit (y.items.getD (↑q4.fst : Int).toNat (Arr.mk (0 : Int) [] [] []))).fst = (0 : Int))) = false →
                                  inR IntKind.i64 ((F.visit (y.items.getD (↑q4.fst : Int).toNat (Arr.mk (0 : Int) [] [] []))).snd.fst + (1 : Int)) ∧
                                    inR IntKind.i64 (q4.snd.snd + (F.visit (y.items.getD (↑q4.fst : Int).toNat (Arr.mk (0 : Int) [] [] []))).snd.snd) ∧
                                      inR IntKind.i64 ((↑q4.fst : Int) + (1 : Int)) ∧
                                        ∃ (q8 : Nat × Int × Int),
                                          (q8.fst ≤ y.items.length ∧
                                              F.visitL (0 : Int) ((↑y.nums.length : Int) + (↑y.items.length : Int)) y.items = F.visitL q8.snd.fst q8.snd.snd (List.drop q8.fst y.items) ∧
                                                (0 : Int) ≤ q8.snd.fst ∧ q8.snd.fst ≤ (17 : Int) ∧ (0 : Int) ≤ q8.snd.snd ∧ q8.snd.snd ≤ (17179869184 : Int)) ∧
                                            y.items.length - q8.fst < y.items.length - q4.fst ∧
                                              (↑q4.fst : Int) + (1 : Int) = (↑q8.fst : Int) ∧
                                                max q4.snd.fst ((F.visit (y.items.getD (↑q4.fst : Int).toNat (Arr.mk (0 : Int) [] [] []))).snd.fst + (1 : Int)) = q8.snd.fst ∧
                                                  min (q4.snd.snd + (F.visit (y.items.getD (↑q4.fst : Int).toNat (Arr.mk (0 : Int) [] [] []))).snd.snd) (262145 : Int) = q8.snd.snd ∧ True)) ∧
                        (decide ((↑q4.fst : Int) < (↑y.items.length : Int)) = false →
                          ((bif decide ((16 : Int) < q4.snd.fst) then true else decide ((262144 : Int) < q4.snd.snd)) = true →
                              (21 : Int) = (F.visit y).fst ∧ (0 : Int) = (F.visit y).snd.fst ∧ (0 : Int) = (F.visit y).snd.snd ∧ True) ∧
                            ((bif decide ((16 : Int) < q4.snd.fst) then true else decide ((262144 : Int) < q4.snd.snd)) = false →
                              (0 : Int) = (F.visit y).fst ∧ q4.snd.fst = (F.visit y).snd.fst ∧ q4.snd.snd = (F.visit y).snd.snd ∧ True))))) := by kernel_rfl

def s50 : Spec := sp1 AR fun y => ret I64 (F.aright y)
theorem wp50 (y : Arr) (H : Heap) :
    (wpF tb [(81, spVisit e81)] noA noA Try.f50 (ret I64 (F.aright y)) [.val AR y] H) = (
  (F.visit y).fst = F.aright y ∧ True) := by kernel_rfl

end A
end Go.Proofs.Ythgnjimpakpkjaa
namespace Go.Proofs.Ythgnjimpakpkjaa
namespace A
theorem sat83 : Sat Try.prog 83 s83 := sat1 fine [] Sat.none Try.func83 (by kernel_rfl) fun (n : Int) H _ _ => ⟨noA, noA, by
  refine (wp83 n H).mpr ?_
  simp only [and_true, F.rnum]
  grind⟩
theorem sat84 : Sat Try.prog 84 s84 := sat1 fine [] Sat.none Try.func84 (by kernel_rfl) fun (n : Int) H _ _ => ⟨noA, noA, by
  refine (wp84 n H).mpr ?_
  simp only [and_true, F.rune]
  grind⟩
theorem sat108 : Sat Try.prog 108 s108 := sat1 fine [] Sat.none Try.func108 (by kernel_rfl) fun (n : Int) H _ _ => ⟨noA, noA, (wp108 n H).mpr ⟨rfl, trivial⟩⟩
theorem sat106 : Sat Try.prog 106 s106 := sat1 fine [] Sat.none Try.func106 (by kernel_rfl) fun (y : Arr) H _ _ => ⟨noA, noA, by
  refine (wp106 y H).mpr ?_
  simp only [decide_eq_true_eq, decide_eq_false_iff_not, and_true, F.rsize]
  grind⟩
theorem sat118 : Sat Try.prog 118 s118 := sat2 fine [] Sat.none Try.func118 (by kernel_rfl) fun (s : List Int) (v : Int) H _ hwf _ => ⟨la118 s v, noA, by
  refine (wp118 s v H).mpr ?_
  have hlen := WF_lenS hwf
  refine ⟨⟨0, ⟨Nat.zero_le _, rfl⟩, rfl, trivial⟩, ?_⟩
  rintro i ⟨h1, h2⟩
  simp only [and_true, idx_iff, inR64, toNat_cast]
  refine ⟨fun hi => ?_, fun hi => ?_⟩
  · have hi : i < s.length := by simpa using hi
    rw [drop_getD 0 hi, F.find_cons] at h2
    refine ⟨by omega, fun hd => by rw [h2, if_pos hd], fun hd => ⟨by omega, i + 1, ⟨by omega, ?_⟩, by omega, by simp⟩⟩
    rw [hd] at h2
    simp only [Bool.false_eq_true, if_false] at h2
    rw [h2]; simp
  · rw [drop_all (by simpa using hi)] at h2
    rw [h2]; rfl⟩
theorem sat105 : Sat Try.prog 105 s105 := sat2 fine [(118, s118)] (sat118.app Sat.none) Try.func105 (by kernel_rfl) fun (s : List Int) (v : Int) H _ _ _ => ⟨noA, noA, (wp105 s v H).mpr ⟨F.find_nn _ s 0 (by omega), trivial⟩⟩
theorem F.hz_any (s : List Int) : (s.any fun d => decide ((0 : Int) = d)) = F.hz s := by
  unfold F.hz; congr 1; funext d; simp [eq_comm]
theorem sat73 : Sat Try.prog 73 s73 := sat1 fine [(105, s105)] (sat105.app Sat.none) Try.func73 (by kernel_rfl) fun (s : List Int) H hpre hwf => ⟨la73 s, noA, by
  refine (wp73 s H).mpr ?_
  have hlen := WF_lenS hwf
  have hr : F.sright s = true := hpre _ (by simp [retP])
  rw [F.hz_any]
  refine ⟨fun hz => by simp [F.sprod, hz], fun hz => ?_⟩
  have h8 : ¬ s.length > 8 := by intro h; simp [F.sright, h] at hr
  have hr1 : F.sright1 1 s = true := by simpa [F.sright, h8] using hr
  have hzd : ∀ i : Nat, i < s.length → s.getD i 0 ≠ 0 := fun i hi he => by
    have : F.hz s = true := List.any_eq_true.2 ⟨_, getD_mem 0 hi, by simp only [decide_eq_true_eq]; exact he⟩
    rw [hz] at this; cases this
  refine ⟨⟨(0, 1), ⟨Nat.zero_le _, rfl, hr1, by decide, by decide⟩, rfl, rfl, trivial⟩, ?_⟩
  rintro ⟨i, p⟩ ⟨h1, h2, h3, h4, h5⟩
  simp only at h1 h2 h3 h4 h5
  simp only [and_true, idx_iff, inR64, toNat_cast]
  refine ⟨fun hi => ?_, fun hi => ?_⟩
  · have hi : i < s.length := by simpa using hi
    have hd0 := hzd i hi
    rw [drop_getD 0 hi, F.sprod1_cons] at h2
    rw [drop_getD 0 hi, F.sright1_cons] at h3
    generalize s.getD i 0 = d at *
    rw [if_neg hd0] at h3
    split at h3
    · cases h3
    rename_i hd
    split at h3
    · cases h3
    rename_i hp
    have : 1 ≤ p * d := by have := Int.mul_le_mul h4 (show 1 ≤ d by omega) (by omega) (by omega); omega
    refine ⟨by omega, by omega, by omega, (i + 1, p * d), ⟨by simp only; omega, h2, h3, by simp only; omega, by simp only; omega⟩, by simp only; omega, rfl, by simp⟩
  · rw [drop_all (by simpa using hi)] at h2
    simp only [F.sprod, hz, h2]; rfl⟩
theorem sat40 : Sat Try.prog 40 s40 := sat1 fine [] Sat.none Try.func40 (by kernel_rfl) fun (s : List Int) H _ hwf => ⟨la40 s, noA, by
  refine (wp40 s H).mpr ?_
  have hlen := WF_lenS hwf
  refine ⟨fun h8 => by simp only [decide_eq_true_eq] at h8; simp [F.sright, show s.length > 8 by omega], fun h8 => ?_⟩
  have h8 : ¬ s.length > 8 := by simp only [decide_eq_false_iff_not] at h8; omega
  have hsr : F.sright s = F.sright1 1 s := by simp [F.sright, h8]
  rw [hsr]
  refine ⟨⟨(0, 1), ⟨Nat.zero_le _, rfl, by decide, by decide⟩, rfl, rfl, trivial⟩, ?_⟩
  rintro ⟨i, p⟩ ⟨h1, h2, h4, h5⟩
  simp only at h1 h2 h4 h5
  simp only [and_true, idx_iff, inR64, toNat_cast]
  refine ⟨fun hi => ?_, fun hi => ?_⟩
  · have hi : i < s.length := by simpa using hi
    rw [drop_getD 0 hi, F.sright1_cons] at h2
    have hwd := WF_ints hwf (getD_mem 0 hi)
    generalize s.getD i 0 = d at *
    have step : ∀ n', 1 ≤ n' → n' ≤ 65536 → F.sright1 1 s = F.sright1 n' (s.drop (i + 1)) → (-9223372036854775808 ≤ (i : Int) + 1 ∧ (i : Int) + 1 ≤ 9223372036854775807) ∧ ∃ q6 : Nat × Int,
        (q6.fst ≤ s.length ∧ F.sright1 1 s = F.sright1 q6.snd (List.drop q6.fst s) ∧ 1 ≤ q6.snd ∧ q6.snd ≤ 65536) ∧ s.length - q6.fst < s.length - i ∧ n' = q6.snd ∧ (i : Int) + 1 = (q6.fst : Int) := fun n' a b c =>
      ⟨by omega, (i + 1, n'), ⟨by simp only; omega, c, a, b⟩, by simp only; omega, rfl, by simp⟩
    refine ⟨by omega, fun hd => ?_, fun hd => ?_⟩
    · rw [h2, if_pos (by grind)]
    have hd : ¬ (d < 0 ∨ d > 65536) := by grind
    rw [if_neg hd] at h2
    refine ⟨fun h0 => ?_, fun h0 => ?_⟩
    · rw [if_pos (by simpa using h0)] at h2
      exact step p h4 h5 h2
    · have h0 : d ≠ 0 := by simpa using h0
      rw [if_neg h0] at h2
      have hm1 : 1 ≤ p * d := by have := Int.mul_le_mul h4 (show 1 ≤ d by omega) (by omega) (by omega); omega
      have hm2 : p * d ≤ 65536 * 65536 := Int.mul_le_mul h5 (by omega) (by omega) (by omega)
      refine ⟨by omega, fun hp => ?_, fun hp => ?_⟩
      · rw [h2, if_pos (by simpa using hp)]
      · rw [if_neg (by simpa using hp)] at h2
        exact step _ hm1 (by simpa using hp) h2
  · rw [drop_all (by simpa using hi)] at h2
    rw [h2]; rfl⟩
theorem sat42 : Sat Try.prog 42 s42 := sat1 fine [(40, s40), (73, s73)] (sat40.app (sat73.app Sat.none)) Try.func42 (by kernel_rfl) fun (s : List Int) H _ _ => ⟨noA, noA, by
  refine (wp42 s H).mpr ?_
  cases h : F.sright s <;> simp [F.ssize, h]⟩
/-- parts of a valid shape are valid -/
theorem F.sright1_mono : ∀ (s : List Int) (p q : Int), 1 ≤ q → q ≤ p → F.sright1 p s = true → F.sright1 q s = true
  | [], _, _, _, _, _ => rfl
  | d :: s, p, q, h1, h2, h => by
    rw [F.sright1_cons] at h ⊢
    split at h
    · cases h
    rename_i hd
    rw [if_neg hd]
    split at h
    · rename_i h0; rw [if_pos h0]; exact F.sright1_mono s p q h1 h2 h
    · rename_i h0
      split at h
      · cases h
      · rename_i hp
        have hqd : q * d ≤ p * d := Int.mul_le_mul_of_nonneg_right h2 (by omega)
        have hq1 : 1 ≤ q * d := by have := Int.mul_le_mul h1 (show 1 ≤ d by omega) (by omega) (by omega); omega
        rw [if_neg h0, if_neg (by omega)]
        exact F.sright1_mono s _ _ hq1 hqd h
theorem F.sright1_take : ∀ (s : List Int) (k : Nat) (p : Int), F.sright1 p s = true → F.sright1 p (s.take k) = true
  | [], k, p, _ => by simp [F.sright1]
  | d :: s, 0, p, _ => rfl
  | d :: s, k + 1, p, h => by
    rw [List.take_succ_cons, F.sright1_cons]
    rw [F.sright1_cons] at h
    split at h
    · cases h
    rename_i hd
    rw [if_neg hd]
    split at h
    · rename_i h0; rw [if_pos h0]; exact F.sright1_take s k p h
    · rename_i h0
      rw [if_neg h0]
      split at h
      · cases h
      · rename_i hp; rw [if_neg hp]; exact F.sright1_take s k _ h
theorem F.sright1_drop : ∀ (s : List Int) (k : Nat) (p : Int), 1 ≤ p → F.sright1 p s = true → F.sright1 p (s.drop k) = true
  | [], k, p, _, _ => by simp [F.sright1]
  | d :: s, 0, p, _, h => h
  | d :: s, k + 1, p, h1, h => by
    rw [List.drop_succ_cons]
    rw [F.sright1_cons] at h
    split at h
    · cases h
    rename_i hd
    split at h
    · exact F.sright1_drop s k p h1 h
    · rename_i h0
      split at h
      · cases h
      · have hq1 : p ≤ p * d := by have := Int.mul_le_mul_of_nonneg_left (show 1 ≤ d by omega) (show 0 ≤ p by omega); omega
        exact F.sright1_mono _ _ _ h1 hq1 (F.sright1_drop s k _ (by omega) h)
theorem F.sright_len {s : List Int} (h : F.sright s = true) : s.length ≤ 8 := by
  by_cases h8 : s.length > 8
  · simp [F.sright, h8] at h
  · omega
theorem F.sright_iff {s : List Int} : F.sright s = true ↔ s.length ≤ 8 ∧ F.sright1 1 s = true := by
  unfold F.sright
  split
  · simp; omega
  · rename_i h; simp; omega
theorem F.sright_take {s : List Int} (k : Nat) (h : F.sright s = true) : F.sright (s.take k) = true := by
  rw [F.sright_iff] at h ⊢
  exact ⟨by rw [List.length_take]; omega, F.sright1_take s k 1 h.2⟩
theorem F.sright_drop {s : List Int} (k : Nat) (h : F.sright s = true) : F.sright (s.drop k) = true := by
  rw [F.sright_iff] at h ⊢
  exact ⟨by rw [List.length_drop]; omega, F.sright1_drop s k 1 (by omega) h.2⟩
theorem sat79 : Sat Try.prog 79 s79 := sat2 fine [(40, s40), (73, s73)] (sat40.app (sat73.app Sat.none)) Try.func79 (by kernel_rfl) fun (s : List Int) (n : Int) H _ hwf _ => ⟨noA, noA, by
  refine (wp79 s n H).mpr ?_
  have hlen := WF_lenS hwf
  refine ⟨fun hc => ?_, fun hc => ?_⟩
  · have hc : F.sright s = false ∨ n < 0 ∨ n > s.length := by grind
    simp [F.row, hc]
  · have hc : ¬ (F.sright s = false ∨ n < 0 ∨ n > s.length) := by grind
    have hs : F.sright s = true := by grind
    refine ⟨by omega, F.sright_take _ hs, by omega, F.sright_drop _ hs, ?_⟩
    simp [F.row, hc]⟩
theorem sat47 : Sat Try.prog 47 s47 := sat2 fine [] Sat.none Try.func47 (by kernel_rfl) fun (s t : List Int) H _ hwf _ => ⟨la47 s t, noA, by
  refine (wp47 s t H).mpr ?_
  have hlen := WF_lenS hwf
  refine ⟨fun hl => ?_, fun hl => ?_⟩
  · have hl : s.length ≠ t.length := by intro e; rw [e] at hl; simp at hl
    have : s ≠ t := fun e => hl (by rw [e])
    simp [this]
  have hl : s.length = t.length := by simp at hl; omega
  refine ⟨⟨0, ⟨Nat.zero_le _, hl, rfl⟩, rfl, trivial⟩, ?_⟩
  rintro i ⟨h1, _, h2⟩
  simp only [and_true, idx_iff, inR64, toNat_cast]
  refine ⟨fun hi => ?_, fun hi => ?_⟩
  · have hi : i < s.length := by simpa using hi
    rw [drop_getD 0 hi, drop_getD 0 (show i < t.length by omega)] at h2
    refine ⟨by omega, by omega, fun hd => ?_, fun hd => ⟨by omega, i + 1, ⟨by omega, hl, ?_⟩, by omega, by simp⟩⟩
    · have hd : s.getD i 0 ≠ t.getD i 0 := by simpa using hd
      rw [h2]; symm; rw [decide_eq_false_iff_not, List.cons.injEq]; exact fun h => hd h.1
    · have hd : s.getD i 0 = t.getD i 0 := by simpa using hd
      rw [h2, hd]; simp
  · have hi : s.length ≤ i := by simpa using hi
    rw [drop_all hi, drop_all (by omega)] at h2
    rw [h2]; rfl⟩
theorem sat76 : Sat Try.prog 76 s76 := satF1 fine [] Sat.none Try.func76 (by kernel_rfl) fun (s : List Int) (pre : Int → Prop) (g : Int → Bool) H hpre hwf => ⟨la76 s g, noA, by
  refine (wp76 s pre g H).mpr ?_
  have hp : ∀ x ∈ s, pre x := hpre _ (by simp [e76, retP])
  have hlen := WF_lenS hwf
  refine ⟨⟨0, ⟨Nat.zero_le _, rfl⟩, rfl, trivial⟩, ?_⟩
  rintro i ⟨h1, h2⟩
  simp only [and_true, idx_iff, inR64, toNat_cast]
  refine ⟨fun hi => ?_, fun hi => ?_⟩
  · have hi : i < s.length := by simpa using hi
    rw [drop_getD 0 hi, F.find_cons] at h2
    refine ⟨by omega, hp _ (getD_mem 0 hi), fun hd => by rw [h2, if_pos hd], fun hd => ⟨by omega, i + 1, ⟨by omega, ?_⟩, by omega, by simp⟩⟩
    rw [hd] at h2
    simp only [Bool.false_eq_true, if_false] at h2
    rw [h2]; simp
  · rw [drop_all (by simpa using hi)] at h2
    rw [h2]; rfl⟩
theorem sat104 : Sat Try.prog 104 s104 := satF1 fine [] Sat.none Try.func104 (by kernel_rfl) fun (s : List Arr) (pre : Arr → Prop) (g : Arr → Bool) H hpre hwf => ⟨la104 s g, noA, by
  refine (wp104 s pre g H).mpr ?_
  have hp : ∀ x ∈ s, pre x := hpre _ (by simp [e104, retP])
  have hlen := WF_lenA hwf
  refine ⟨⟨0, ⟨Nat.zero_le _, rfl⟩, rfl, trivial⟩, ?_⟩
  rintro i ⟨h1, h2⟩
  simp only [and_true, idx_iff, inR64, toNat_cast]
  refine ⟨fun hi => ?_, fun hi => ?_⟩
  · have hi : i < s.length := by simpa using hi
    rw [drop_getD (Arr.mk 0 [] [] []) hi, F.find_cons] at h2
    refine ⟨by omega, hp _ (getD_mem _ hi), fun hd => by rw [h2, if_pos hd], fun hd => ⟨by omega, i + 1, ⟨by omega, ?_⟩, by omega, by simp⟩⟩
    rw [hd] at h2
    simp only [Bool.false_eq_true, if_false] at h2
    rw [h2]; simp
  · rw [drop_all (by simpa using hi)] at h2
    rw [h2]; rfl⟩
theorem sat45 : Sat Try.prog 45 s45 := satF1 fine [(76, s76)] (sat76.app Sat.none) Try.func45 (by kernel_rfl) fun (s : List Int) (pre : Int → Prop) (g : Int → Bool) H hpre _ => ⟨noA, noA,
  (wp45 s pre g H).mpr ⟨hpre _ (by simp [e45, retP]), F.find_nn g s 0 (by omega), trivial⟩⟩
theorem sat70 : Sat Try.prog 70 s70 := satF1 fine [(104, s104)] (sat104.app Sat.none) Try.func70 (by kernel_rfl) fun (s : List Arr) (pre : Arr → Prop) (g : Arr → Bool) H hpre _ => ⟨noA, noA,
  (wp70 s pre g H).mpr ⟨hpre _ (by simp [e70, retP]), F.find_nn g s 0 (by omega), trivial⟩⟩
theorem F.eqF_len {α β : Type} (g : α → β → Bool) : ∀ (l : List α) (m : List β), l.length ≠ m.length → F.eqF g l m = false
  | [], [], h => absurd rfl h
  | [], _ :: _, _ => rfl
  | _ :: _, [], _ => rfl
  | x :: l, y :: m, h => by simp [F.eqF, F.eqF_len g l m (by simpa using h)]
theorem sat48 : Sat Try.prog 48 s48 := satF2 fine [] Sat.none Try.func48 (by kernel_rfl) fun (l m : List Arr) (pre : Arr → Arr → Prop) (g : Arr → Arr → Bool) H hpre hwf _ => ⟨la48 l m g, noA, by
  refine (wp48 l m pre g H).mpr ?_
  have hp : ∀ x ∈ l, ∀ y ∈ m, pre x y := hpre _ (by simp [e48, retP])
  have hlen := WF_lenA hwf
  refine ⟨fun hl => ?_, fun hl => ?_⟩
  · have hl : l.length ≠ m.length := by intro e; rw [e] at hl; simp at hl
    rw [F.eqF_len g l m hl]; exact ⟨rfl, trivial⟩
  have hl : l.length = m.length := by simp at hl; omega
  refine ⟨⟨0, ⟨Nat.zero_le _, hl, rfl⟩, rfl, trivial⟩, ?_⟩
  rintro i ⟨h1, _, h2⟩
  simp only [and_true, idx_iff, inR64, toNat_cast]
  refine ⟨fun hi => ?_, fun hi => ?_⟩
  · have hi : i < l.length := by simpa using hi
    have hi' : i < m.length := by omega
    rw [drop_getD (Arr.mk 0 [] [] []) hi, drop_getD (Arr.mk 0 [] [] []) hi'] at h2
    simp only [F.eqF] at h2
    refine ⟨by omega, by omega, hp _ (getD_mem _ hi) _ (getD_mem _ hi'), fun hd => ?_, fun hd => ⟨by omega, i + 1, ⟨by omega, hl, ?_⟩, by omega, by simp⟩⟩
    · simp only [Bool.not_eq_true'] at hd; rw [h2, hd]; rfl
    · simp only [Bool.not_eq_false'] at hd; rw [h2, hd]; rfl
  · have hi : l.length ≤ i := by simpa using hi
    rw [drop_all hi, drop_all (by omega)] at h2
    rw [h2]; rfl⟩
theorem sat15 : Sat Try.prog 15 s15 := rec2 fine [(47, s47), (48, s48)] (sat47.app (sat48.app Sat.none)) Try.func15 (by kernel_rfl) (fun x _ => F.sz x) fun m (x y : Arr) H _ hm _ _ => ⟨noA, noA, by
  refine (wp15 x y H m).mpr ⟨fun _ q hq q' _ => ⟨?_, trivial⟩, ?_, trivial⟩
  · have := sz_items hq; omega
  · cases x with
    | mk k s n it =>
      cases y with
      | mk k' s' n' it' =>
        simp only [F.same, F.sameL_eqF, Arr.kind, Arr.shape, Arr.nums, Arr.items]
        by_cases h1 : k = k' <;> by_cases h2 : s = s' <;> by_cases h3 : n = n' <;> simp [h1, h2, h3]⟩
theorem sat74 : Sat Try.prog 74 s74 := rec1 fine [(106, s106)] (sat106.app Sat.none) Try.func74 (by kernel_rfl) F.sz fun m (y : Arr) H _ hm hwf => ⟨la74 y, noA, by
  refine (wp74 y H m).mpr ?_
  obtain ⟨_, _, _, h3⟩ := WF_arr hwf
  have hlen := WF_lenA h3
  have hsz := F.rsize_nn y
  have hw := F.aweight_eq y
  refine ⟨fun h3 => ?_, fun h3 => ?_⟩
  · rw [if_pos (by simpa using h3)] at hw; exact ⟨hw.symm, trivial⟩
  rw [if_neg (by simpa using h3)] at hw
  refine ⟨⟨(0, min (F.rsize y) 262145), ⟨Nat.zero_le _, rfl, by simp only; omega, by simp only; omega⟩, rfl, rfl, trivial⟩, ?_⟩
  rintro ⟨i, n⟩ ⟨h1, h2, h3, h4⟩
  simp only at h1 h2 h3 h4
  simp only [and_true, idx_iff, inR64, toNat_cast]
  rw [hw]
  refine ⟨fun hi => ?_, fun hi => ?_⟩
  · have hi : i < y.items.length := by simpa using hi
    have hmem := getD_mem (Arr.mk 0 [] [] []) hi
    rw [drop_getD (Arr.mk 0 [] [] []) hi, F.aweightL_cons] at h2
    have hb := F.aweight_bd (y.items.getD i (Arr.mk 0 [] [] []))
    have hs := sz_items hmem
    refine ⟨by omega, fun hn => ?_, fun hn => ?_⟩
    · rw [h2, if_pos (by simpa using hn)]
    · rw [if_neg (by simpa using hn)] at h2
      exact ⟨by omega, by omega, by omega, (i + 1, _), ⟨by simp only; omega, h2, by simp only; omega, by simp only; omega⟩, by simp only; omega, rfl, by simp⟩
  · rw [drop_all (by simpa using hi)] at h2
    rw [h2]; rfl⟩
theorem sat82 : Sat Try.prog 82 s82 := sat1 fine [(45, s45), (108, s108), (40, s40), (42, s42)] (sat45.app (sat108.app (sat40.app (sat42.app Sat.none)))) Try.func82 (by kernel_rfl) fun (y : Arr) H _ hwf => ⟨noA, noA, by
  refine (wp82 y H).mpr ?_
  have e : (y.shape.any fun q => decide (q < 0)) = F.hneg y.shape := rfl
  have hsz : F.rsize y = if y.kind = 1 ∨ y.kind = 2 then (y.nums.length : Int) else if y.kind = 3 then (y.items.length : Int) else 0 := rfl
  rw [e]
  unfold F.form
  rw [hsz]
  have hnn : (0 : Int) ≤ (y.nums.length : Int) := by omega
  have hni : (0 : Int) ≤ (y.items.length : Int) := by omega
  generalize F.ssize y.shape = S
  generalize F.hneg y.shape = N
  generalize F.sright y.shape = R
  generalize hL : y.shape.length = L
  generalize (y.nums.length : Int) = A1 at *
  generalize (y.items.length : Int) = A2 at *
  generalize y.kind = K
  simp only [decide_eq_true_eq, decide_eq_false_iff_not, and_true]
  by_cases k1 : K = 1
  · subst k1; simp; grind
  by_cases k2 : K = 2
  · subst k2; simp; grind
  by_cases k3 : K = 3
  · subst k3; simp; grind
  · simp [k1, k2, k3]⟩
theorem take_snoc' {α : Type} {l : List α} {i : Nat} (d : α) (h : i < l.length) : l.take (i + 1) = l.take i ++ [l.getD i d] := by
  rw [List.take_succ_eq_append_getElem h, List.getD_eq_getElem?_getD, List.getElem?_eq_getElem h]; rfl
theorem set_at {α : Type} (l : List α) (d : α) {i : Nat} (h : i < l.length) : (l.take i ++ List.replicate (l.length - i) d).set i (l.getD i d) = l.take (i + 1) ++ List.replicate (l.length - (i + 1)) d := by
  have e : l.length - i = (l.length - (i + 1)) + 1 := by omega
  rw [e, List.replicate_succ, List.set_append_right _ _ (by rw [List.length_take]; omega), take_snoc' d h]
  rw [List.length_take, show i - min i l.length = 0 by omega, List.set_cons_zero]
  simp
theorem sat75 : Sat Try.prog 75 s75 := rec1 fine [] Sat.none Try.func75 (by kernel_rfl) F.sz fun m (y : Arr) H _ hm hwf => ⟨la75 y, noA, by
  refine (wp75 y H m).mpr ?_
  obtain ⟨_, w1, w2, w3⟩ := WF_arr hwf
  have l1 := WF_lenS w1
  have l2 := WF_lenS w2
  have l3 := WF_lenA w3
  have hL : (LIM : Int) = 4294967296 := rfl
  refine ⟨by omega, by omega, by omega, ⟨0, ⟨Nat.zero_le _, trivial⟩, rfl, rfl, by simp, by simp, by simp, trivial⟩, ?_⟩
  rintro i ⟨h1, _⟩
  simp only [and_true, idx_iff, inR64, toNat_cast]
  refine ⟨fun hi => ?_, fun hi => ?_⟩
  · have hi : i < y.items.length := by simpa using hi
    have hs := sz_items (getD_mem (Arr.mk 0 [] [] []) hi)
    refine ⟨by omega, by omega, by simp; omega, by omega, i + 1, by omega, by omega, by simp, ?_⟩
    exact ⟨trivial, trivial, trivial, set_at y.items _ hi⟩
  · have hi : y.items.length ≤ i := by simpa using hi
    have : y.items.length - i = 0 := by omega
    rw [this, List.take_of_length_le hi]
    cases y; simp [Arr.kind, Arr.shape, Arr.nums, Arr.items]⟩
theorem sat35 : Sat Try.prog 35 s35 := sat1 fine [] Sat.none Try.func35 (by kernel_rfl) fun (s : List Int) H _ hwf => ⟨noA, noA, by
  refine (wp35 s H).mpr ?_
  have hlen := WF_lenS hwf
  have hL : LIM = 4294967296 := rfl
  refine ⟨fun h0 => ⟨fun _ => ⟨(List.length_eq_zero_iff.1 h0).symm, trivial⟩, (fun h => by cases h)⟩, (fun h => by cases h), fun _ => ⟨by simp; omega, by simp⟩⟩⟩
theorem sat69 : Sat Try.prog 69 spGrow := sat0 fine [] Sat.none Try.func69 (by kernel_rfl) fun xs H e hsp hpre hwf => by
  obtain ⟨n, rfl, rfl⟩ := spGrow_inv hsp
  refine ⟨noA, noA, (wp69 n H).mpr ?_⟩
  obtain ⟨h0, _, h1⟩ := hpre (mkok n n) (by simp)
  have hL : (LIM : Int) = 4294967296 := rfl
  simp only [inR64]
  refine ⟨fun h => by simp only [decide_eq_true_eq] at h; omega, fun _ => ⟨by omega, by omega, fun h => ⟨by simp, by omega, by simp <;> omega, by simp⟩, fun _ => by simp⟩⟩
theorem flat_take (l : List (List Int)) {i : Nat} (h : i < l.length) : (l.take (i + 1)).flatten = (l.take i).flatten ++ l.getD i [] := by
  rw [take_snoc' [] h, List.flatten_append]; simp
theorem flat_le (l : List (List Int)) (i : Nat) : (l.take i).flatten.length ≤ l.flatten.length := by
  conv => rhs; rw [← List.take_append_drop i l]
  rw [List.flatten_append, List.length_append]; omega
theorem sat38 : Sat Try.prog 38 s38 := sat1 fine [(69, spGrow), (100069, spMark)] (sat69.app ((satMark 100069).app Sat.none)) Try.func38 (by kernel_rfl) fun (l : List (List Int)) H hpre hwf => ⟨la38 l, noA, by
  refine (wp38 l H).mpr ?_
  have hL : (LIM : Int) = 4294967296 := rfl
  have hL' : LIM = 4294967296 := rfl
  have hll : l.length < 4294967296 := WF_len (t := SI) hwf
  have hfl : l.flatten.length < 4294967296 := hpre _ (by simp [retPO])
  refine ⟨⟨0, ⟨Nat.zero_le _, trivial⟩, rfl, by simp, trivial⟩, ?_⟩
  rintro i ⟨h1, _⟩
  have hle := flat_le l i
  have hle2 := flat_le l (i + 1)
  simp only [and_true, idx_iff, inR64, toNat_cast]
  refine ⟨fun hi => ?_, fun hi => ?_⟩
  · have hi : i < l.length := by simpa using hi
    have e := flat_take l hi
    have e2 : ((l.take (i + 1)).flatten.length : Int) = (l.take i).flatten.length + (l.getD i []).length := by rw [e, List.length_append]; simp
    refine ⟨by omega, by omega, fun h => by simp only [decide_eq_true_eq] at h; omega, fun h => ⟨by omega, i + 1, by omega, by omega, by simp, e2.symm⟩⟩
  · refine ⟨by omega, ⟨0, Nat.zero_le _, rfl, by simp⟩, fun j hj => ?_⟩
    have hle3 := flat_le l (j + 1)
    refine ⟨fun hji => ?_, fun hji => ?_⟩
    · have hji : j < l.length := by simpa using hji
      have e := flat_take l hji
      refine ⟨by omega, ?_, by omega, j + 1, by omega, by omega, by simp, e.symm⟩
      rw [← e, hL']; omega
    · rw [List.take_of_length_le (by simpa using hji)]⟩
/-- the closure 'visit' -/
theorem satVisit : Sat Try.prog 81 (spVisit e81) := by
  have key : ∀ n, Sat Try.prog 81 (spVisit fun y => ltE (F.sz y < n) (e81 y)) := by
    intro n
    induction n with
    | zero =>
      intro w Z X pl H xs vs e hsp hpre
      obtain ⟨x, rfl, _, rfl⟩ := spVisit_inv hsp
      have := hpre (F.sz x < 0) (by simp [ltE])
      omega
    | succ m ih =>
      refine satK fine ((81, spVisit fun y => ltE (F.sz y < m) (e81 y)) :: [(82, s82), (83, s83), (84, s84)]) (ih.app (sat82.app (sat83.app (sat84.app Sat.none)))) Try.func81 (by kernel_rfl) fun xs H e hsp hpre hwf => ?_
      obtain ⟨y, rfl, hH, rfl⟩ := spVisit_inv hsp
      refine ⟨[(500000, .live visitC)], by simpa using hH, la81 y, noA, (wp81 y H m).mpr ?_⟩
      have hm : F.sz y < m + 1 := hpre _ (by simp [ltE])
      have hwf : WF AR y := hwf.a (.val AR y) (by simp)
      obtain ⟨_, w1, w2, w3⟩ := WF_arr hwf
      have l2 := WF_lenS w2
      have l3 := WF_lenA w3
      have hv := F.visit_eq y
      refine ⟨fun hf => ?_, fun hf => ?_⟩
      · rw [if_pos (by simpa using hf)] at hv
        rw [hv]; exact ⟨rfl, rfl, rfl, trivial⟩
      rw [if_neg (by simpa using hf)] at hv
      refine ⟨⟨0, ⟨Nat.zero_le _, rfl⟩, rfl, trivial⟩, ?_⟩
      rintro i ⟨h1, h2⟩
      rw [F.bad_spec, toNat_cast]
      simp only [and_true, idx_iff, inR64]
      refine ⟨fun hi => ?_, fun hi => ?_⟩
      · have hi : i < y.nums.length := by simpa using hi
        rw [drop_getD 0 hi, F.badL_cons] at h2
        refine ⟨by omega, fun hb => ?_, fun hb => ⟨by omega, i + 1, ⟨by omega, by rw [h2, hb]; rfl⟩, by omega, by simp⟩⟩
        rw [hb] at h2
        have h2 : F.badL y.kind y.nums = true := h2
        rw [if_pos h2] at hv
        rw [hv]; exact ⟨rfl, rfl, rfl⟩
      · rw [drop_all (by simpa using hi)] at h2
        have h2 : F.badL y.kind y.nums = false := h2
        rw [if_neg (by simp [h2])] at hv
        refine ⟨by omega, ⟨(0, 0, (y.nums.length : Int) + y.items.length), ⟨Nat.zero_le _, rfl, by simp only; omega, by simp only; omega, by simp only; omega, by simp only; omega⟩, rfl, rfl, rfl⟩, ?_⟩
        rintro ⟨j, d, w⟩ ⟨k1, k2, k3, k4, k5, k6⟩
        simp only at k1 k2 k3 k4 k5 k6
        simp only [toNat_cast]
        refine ⟨fun hj => ?_, fun hj => ?_⟩
        · have hj : j < y.items.length := by simpa using hj
          have hmem := getD_mem (Arr.mk 0 [] [] []) hj
          rw [drop_getD (Arr.mk 0 [] [] []) hj, F.visitL_cons] at k2
          have hs := sz_items hmem
          have hb := F.visit_bd (y.items.getD j (Arr.mk 0 [] [] []))
          have hb2 := F.visit_w (y.items.getD j (Arr.mk 0 [] [] []))
          generalize y.items.getD j (Arr.mk 0 [] [] []) = x at *
          refine ⟨by omega, by omega, fun he => ?_, fun he => ?_⟩
          · rw [if_pos (by simpa using he)] at k2
            rw [hv, k2]; exact ⟨rfl, rfl, rfl⟩
          · rw [if_neg (by simpa using he)] at k2
            exact ⟨by omega, by omega, by omega, (j + 1, _, _), ⟨by simp only; omega, k2, by simp only; omega, by simp only; omega, by simp only; omega, by simp only; omega⟩, by simp only; omega, by simp, rfl, rfl⟩
        · rw [drop_all (by simpa using hj)] at k2
          have k2 : F.visitL 0 ((y.nums.length : Int) + y.items.length) y.items = some (d, w) := k2
          rw [k2] at hv
          simp only at hv
          rw [hv]
          refine ⟨fun hc => ?_, fun hc => ?_⟩
          · have : d > 16 ∨ w > 262144 := by grind
            rw [if_pos this]; simp
          · have : ¬ (d > 16 ∨ w > 262144) := by grind
            rw [if_neg this]; simp
  intro w Z X pl H xs vs e hsp hpre hg has hkn hrng
  obtain ⟨y, rfl, hH, rfl⟩ := spVisit_inv hsp
  exact key (F.sz y + 1) w Z X pl H [.val AR y, .ref 500000 0] vs (ltE (F.sz y < F.sz y + 1) (e81 y)) (by
    have : ∀ f : Arr → Eff, spVisit f [.val AR y, .ref 500000 0] H = (match H 500000 with | .live (.fn 81 (.cons (.ref 500000 0) .unit)) => (castT (a := AR) AR y).map f | _ => none) := fun _ => rfl
    rw [this, hH]
    have hc : castT (a := AR) AR y = some y := by
      simp only [castT]
      rfl
    simp only [visitC, hc]
    rfl) (fun q hq => by
    simp only [ltE, List.mem_cons] at hq
    rcases hq with rfl | hq
    · exact Nat.lt_succ_self _
    · exact hpre q hq) hg has hkn hrng
theorem sat50 : Sat Try.prog 50 s50 := sat1 fine [(81, spVisit e81)] (satVisit.app Sat.none) Try.func50 (by kernel_rfl) fun (y : Arr) H _ _ => ⟨noA, noA, (wp50 y H).mpr ⟨rfl, trivial⟩⟩
end A
end Go.Proofs.Ythgnjimpakpkjaa
namespace Go.Proofs.Ythgnjimpakpkjaa
namespace A
abbrev ROW : Ty := .pair (.int .i64) (.rc .arr)
namespace F
def cmpI (a b : Int) : Int := if a < b then -1 else if b < a then 1 else 0
def orL : List Int → Int
  | [] => 0
  | c :: l => if c ≠ 0 then c else orL l
def lexL {α : Type} (c : α → α → Int) : List α → List α → Int
  | [], [] => 0
  | [], _ :: _ => -1
  | _ :: _, [] => 1
  | x :: l, y :: m => if c x y ≠ 0 then c x y else lexL c l m
def rank (k r : Int) : Int := let r := max r 0; min (if k < 0 then max k (-r) + r else k) r
def part (a : Arr) (i n : Int) (s : List Int) : Arr :=
  if a.kind = 3 then .mk a.kind s [] (sliceL a.items i (i + n)) else .mk a.kind s (sliceL a.nums i (i + n)) []
def cells (a : Arr) (k : Int) : List Arr :=
  if aright a ≠ 0 then [] else
    let f := (a.shape.length - rank k a.shape.length).toNat
    (List.range (ssize (a.shape.take f)).toNat).map fun (i : Nat) => part a ((i : Int) * ssize (a.shape.drop f)) (ssize (a.shape.drop f)) (a.shape.drop f)
/-- an element, compared -/
def leaf (r : Arr → Arr → Int) (a b : Arr) (i j : Int) : Int :=
  if a.kind = 3 then (match a.items[i.toNat]?, b.items[j.toNat]? with
    | some x, some y => r x y
    | _, _ => 0) else cmpI (a.nums.getD i.toNat 0) (b.nums.getD j.toNat 0)
def kids (p : Int) (d : Int) (i : Int) : List Int := (List.range d.toNat).map fun (k : Nat) => i + (k : Int) * p
def celF (r : Arr → Arr → Int) (a b : Arr) : List Int → List Int → Int → Int → Int
  | d :: s, e :: t, i, j => lexL (celF r a b s t) (kids (ssize s) d i) (kids (ssize t) e j)
  | _, _, i, j => leaf r a b i j
def contF (r : Arr → Arr → Int) (a b : Arr) : Int := if a.kind ≠ b.kind ∨ a.shape.length ≠ b.shape.length then 0 else celF r a b a.shape b.shape 0 0
def cmpF (r : Arr → Arr → Int) (a b : Arr) : Int := orL [cmpI a.kind b.kind, cmpI a.shape.length b.shape.length, contF r a b, lexL cmpI a.shape b.shape]
def cmpN : Nat → Arr → Arr → Int
  | 0, _, _ => 0
  | n + 1, a, b => cmpF (cmpN n) a b
def cmp (a b : Arr) : Int := cmpN (sz a) a b
def compare (a b : Arr) : Int := if aright a ≠ 0 ∨ aright b ≠ 0 then 0 else cmp a b
theorem leaf_congr {r r' : Arr → Arr → Int} {a b : Arr} (h : ∀ x ∈ a.items, ∀ y, r x y = r' x y) (i j : Int) : leaf r a b i j = leaf r' a b i j := by
  unfold leaf
  split
  · cases h1 : a.items[i.toNat]? with
    | none => rfl
    | some x => cases h2 : b.items[j.toNat]? with
      | none => rfl
      | some y => exact h x (List.mem_of_getElem? h1) y
  · rfl
theorem lexL_congr {α : Type} {c c' : α → α → Int} : ∀ (l m : List α), (∀ x ∈ l, ∀ y ∈ m, c x y = c' x y) → lexL c l m = lexL c' l m
  | [], [], _ => rfl
  | [], _ :: _, _ => rfl
  | _ :: _, [], _ => rfl
  | x :: l, y :: m, h => by
    simp only [lexL]
    rw [h x (by simp) y (by simp), lexL_congr l m (fun x hx y hy => h x (by simp [hx]) y (by simp [hy]))]
theorem celF_congr {r r' : Arr → Arr → Int} {a b : Arr} (h : ∀ x ∈ a.items, ∀ y, r x y = r' x y) : ∀ (s t : List Int) (i j : Int), celF r a b s t i j = celF r' a b s t i j
  | d :: s, e :: t, i, j => by
    simp only [celF]
    exact lexL_congr _ _ fun x _ y _ => celF_congr h s t x y
  | [], [], i, j => leaf_congr h i j
  | [], _ :: _, i, j => leaf_congr h i j
  | _ :: _, [], i, j => leaf_congr h i j
theorem cmpF_congr {r r' : Arr → Arr → Int} {a b : Arr} (h : ∀ x ∈ a.items, ∀ y, r x y = r' x y) : cmpF r a b = cmpF r' a b := by
  have : contF r a b = contF r' a b := by unfold contF; split; rfl; exact celF_congr h _ _ _ _
  unfold cmpF; rw [this]
theorem cmpN_stable : ∀ (n m : Nat) (a b : Arr), sz a ≤ n → sz a ≤ m → cmpN n a b = cmpN m a b
  | 0, m, a, b, h, _ => by cases a; simp [sz] at h
  | n + 1, 0, a, b, _, h => by cases a; simp [sz] at h
  | n + 1, m + 1, a, b, h1, h2 => by
    simp only [cmpN]
    refine cmpF_congr fun x hx y => cmpN_stable n m x y ?_ ?_ <;> (have := sz_items hx; omega)
theorem cmp_eq (a b : Arr) : cmp a b = cmpF cmp a b := by
  have h : ∃ k, sz a = k + 1 := by cases a; exact ⟨_, rfl⟩
  obtain ⟨k, hk⟩ := h
  unfold cmp
  rw [hk]
  simp only [cmpN]
  refine cmpF_congr fun x hx y => cmpN_stable _ _ _ _ ?_ (Nat.le_refl _)
  have := sz_items hx
  omega
/- merge sort -/
def mergeL {α : Type} (c : α → α → Int) : List α → List α → List α
  | [], b => b
  | x :: a, b => go c x a (mergeL c a) b
where go (c : α → α → Int) (x : α) (a : List α) (rec : List α → List α) : List α → List α
  | [] => x :: a
  | y :: b => if c x y ≤ 0 then x :: rec (y :: b) else y :: go c x a rec b
def msort {α : Type} (c : α → α → Int) : Nat → List α → List α
  | 0, l => l
  | n + 1, l => if l.length < 2 then l else mergeL c (msort c n (l.take (l.length / 2))) (msort c n (l.drop (l.length / 2)))
def sort {α : Type} (c : α → α → Int) (l : List α) : List α := msort c l.length l
theorem mergeL_nil {α : Type} (c : α → α → Int) (b : List α) : mergeL c [] b = b := rfl
theorem mergeL_nil2 {α : Type} (c : α → α → Int) : ∀ (a : List α), mergeL c a [] = a
  | [] => rfl
  | _ :: _ => rfl
theorem mergeL_cons {α : Type} (c : α → α → Int) (x y : α) (a b : List α) : mergeL c (x :: a) (y :: b) = if c x y ≤ 0 then x :: mergeL c a (y :: b) else y :: mergeL c (x :: a) b := rfl
theorem msort_stable {α : Type} (c : α → α → Int) : ∀ (n m : Nat) (l : List α), l.length ≤ n → l.length ≤ m → msort c n l = msort c m l
  | 0, 0, _, _, _ => rfl
  | 0, m + 1, l, h, _ => by simp only [msort]; rw [if_pos (by omega)]
  | n + 1, 0, l, _, h => by simp only [msort]; rw [if_pos (by omega)]
  | n + 1, m + 1, l, h1, h2 => by
    simp only [msort]
    split
    · rfl
    · rename_i h
      rw [msort_stable c n m (l.take (l.length / 2)) (by rw [List.length_take]; omega) (by rw [List.length_take]; omega),
        msort_stable c n m (l.drop (l.length / 2)) (by rw [List.length_drop]; omega) (by rw [List.length_drop]; omega)]
theorem sort_eq {α : Type} (c : α → α → Int) (l : List α) (h : ¬ l.length < 2) : sort c l = mergeL c (sort c (l.take (l.length / 2))) (sort c (l.drop (l.length / 2))) := by
  unfold sort
  obtain ⟨k, hk⟩ : ∃ k, l.length = k + 1 := ⟨l.length - 1, by omega⟩
  rw [hk]
  simp only [msort]
  rw [if_neg (by omega), ← hk]
  rw [msort_stable c k (l.take (l.length / 2)).length _ (by rw [List.length_take]; omega) (Nat.le_refl _), msort_stable c k (l.drop (l.length / 2)).length _ (by rw [List.length_drop]; omega) (Nat.le_refl _)]
theorem sort_short {α : Type} (c : α → α → Int) (l : List α) (h : l.length < 2) : sort c l = l := by
  unfold sort
  cases hl : l.length with
  | zero => rfl
  | succ k => simp only [msort]; rw [if_pos h]
def rowc (a b : Int × Arr) : Int := compare a.2 b.2
def rows (y : Arr) : List (Int × Arr) := (cells y (y.shape.length - 1)).zipIdx.map fun p => ((p.2 : Int), p.1)
def numbers (l : List (Int × Arr)) : Arr := .mk 1 [(l.length : Int)] (l.map (·.1)) []
def up (y : Arr) : Arr := numbers (sort rowc (rows y))
def sorted (y : Arr) : Arr := .mk y.kind y.shape ((sort rowc (rows y)).map fun r => r.2.nums).flatten ((sort rowc (rows y)).map fun r => r.2.items).flatten
def within (l : List Int) (d : Int) : Bool := !l.any fun n => decide (n < 0) || decide (d ≤ n)
def gw (y : Arr) (l : List Int) : Int := (l.map fun (i : Int) => 1 + aweight (y.items.getD i.toNat (Arr.mk 0 [] [] []))).sum
def gather (y : Arr) (s l : List Int) : Arr :=
  if y.kind ≠ 3 then .mk y.kind s (l.map fun (i : Int) => y.nums.getD i.toNat 0) [] else .mk y.kind s [] (l.map fun (i : Int) => y.items.getD i.toNat (Arr.mk 0 [] [] []))
def fromI (n : Int) (l : List Int) : List Int := (l.map fun (i : Int) => (List.range n.toNat).map fun (k : Nat) => i * n + (k : Int)).flatten
def iota (y : Arr) : Arr := .mk 1 y.nums ((List.range (ssize y.nums).toNat).map fun (k : Nat) => (k : Int)) []
/-- comparing from an axis on -/
def celA (a b : Arr) (ax i j : Int) : Int := celF cmp a b (a.shape.drop ax.toNat) (b.shape.drop ax.toNat) i j
def celPre (r : Int) (a b : Arr) (ax i j : Int) : Prop := r = a.shape.length ∧ a.kind = b.kind ∧ a.shape.length = b.shape.length ∧ aright a = 0 ∧ aright b = 0 ∧ 0 ≤ ax ∧ ax ≤ a.shape.length ∧
  0 ≤ i ∧ i + sprod (a.shape.drop ax.toNat) ≤ rsize a ∧ 0 ≤ j ∧ j + sprod (b.shape.drop ax.toNat) ≤ rsize b
end F
/-- 'cells' of order.contents: the closure -/
def celC : AV := .fn 117 (.cons (.ref 500000 0) (.cons (.ref 500001 0) (.cons (.ref 500002 0) (.cons (.ref 500003 0) .unit))))
def spCells (f : Int → Arr → Arr → Int → Int → Int → Eff) : Spec := fun xs H => match xs with
  | [.val (.int .i64) ax, .val (.int .i64) i, .val (.int .i64) j, .ref 500000 0, .ref 500001 0, .ref 500002 0, .ref 500003 0] =>
    match H 500000, H 500001, H 500002, H 500003 with
    | .live (.val (.int .i64) r), .live (.val (.rc .arr) a), .live (.val (.rc .arr) b), .live (.fn 117 (.cons (.ref 500000 0) (.cons (.ref 500001 0) (.cons (.ref 500002 0) (.cons (.ref 500003 0) .unit))))) => some (f r a b ax i j)
    | _, _, _, _ => none
  | _ => none
def celL (r : Int) (a b : Arr) : List (Nat × Obj) := [(500000, .live (.val I64 r)), (500001, .live (.val AR a)), (500002, .live (.val AR b)), (500003, .live celC)]
theorem spCells_inv {f : Int → Arr → Arr → Int → Int → Int → Eff} {xs : List AV} {H : Heap} {e : Eff} (h : spCells f xs H = some e) :
    ∃ (r : Int) (a b : Arr) (ax i j : Int), xs = [.val I64 ax, .val I64 i, .val I64 j, .ref 500000 0, .ref 500001 0, .ref 500002 0, .ref 500003 0] ∧ (∀ p, p ∈ celL r a b → H p.1 = p.2) ∧ e = f r a b ax i j := by
  unfold spCells at h
  split at h
  · split at h
    · rename_i r a b h1 h2 h3 h4
      cases h
      refine ⟨r, a, b, _, _, _, rfl, ?_, rfl⟩
      intro p hp
      simp only [celL, List.mem_cons, List.not_mem_nil, or_false] at hp
      rcases hp with rfl | rfl | rfl | rfl
      · exact h1
      · exact h2
      · exact h3
      · exact h4
    · cases h
  · cases h
end A
end Go.Proofs.Ythgnjimpakpkjaa
namespace Go.Proofs.Ythgnjimpakpkjaa
namespace A
def e97 (k r : Int) : Eff := retP (-100 ≤ k ∧ k ≤ 100 ∧ 0 ≤ r ∧ r ≤ 100) I64 (F.rank k r)
def s97 : Spec := sp2 I64 I64 e97
theorem wp97 (k r : Int) (H : Heap) :
    (wpF tb [] noA noA Try.f97 (e97 k r) [.val I64 k, .val I64 r] H) = (
  (decide (k < (0 : Int)) = true →
    inR IntKind.i64 (-max r (0 : Int)) ∧ inR IntKind.i64 (max k (-max r (0 : Int)) + max r (0 : Int)) ∧ min (max k (-max r (0 : Int)) + max r (0 : Int)) (max r (0 : Int)) = F.rank k r ∧ True) ∧
  (decide (k < (0 : Int)) = false → min k (max r (0 : Int)) = F.rank k r ∧ True)) := by kernel_rfl

def e98 (a : Arr) (i n : Int) (s : List Int) : Eff := retP (0 ≤ i ∧ 0 ≤ n ∧ i + n ≤ (if a.kind = 3 then (a.items.length : Int) else a.nums.length)) AR (F.part a i n s)
def s98 : Spec := sp4 AR I64 I64 SI e98
theorem wp98 (a : Arr) (i n : Int) (s : List Int) (H : Heap) :
    (wpF tb [(35, s35), (75, s75)] noA noA Try.f98 (e98 a i n s) [.val AR a, .val I64 i, .val I64 n, .val SI s] H) = (
  inR IntKind.i64 (i + n) ∧
  (decide (a.kind = (3 : Int)) = true → ((0 : Int) ≤ i ∧ i ≤ i + n ∧ i + n = i + n ∧ i + n ≤ (↑a.items.length : Int)) ∧ Arr.mk a.kind s [] (sliceL a.items i (i + n)) = F.part a i n s ∧ True) ∧
    (decide (a.kind = (3 : Int)) = false → ((0 : Int) ≤ i ∧ i ≤ i + n ∧ i + n = i + n ∧ i + n ≤ (↑a.nums.length : Int)) ∧ Arr.mk a.kind s (sliceL a.nums i (i + n)) [] = F.part a i n s ∧ True)) := by kernel_rfl

def e67 (a : Arr) (k : Int) : Eff := retPO (-100 ≤ k ∧ k ≤ 100) AR (F.cells a k)
def s67 : Spec := sp2 AR I64 e67
def la67 (a : Arr) (k : Int) : Nat → Option (AState → Ann)
  | 7 => some (annT Nat (fun i => [(35, .val I64 (i : Int)), (8, .own AR ((F.cells a k).take i))]) (fun i => i ≤ (F.cells a k).length ∧ True) (fun i => (F.cells a k).length - i))
  | _ => none
theorem wp67 (a : Arr) (k : Int) (H : Heap) :
    (wpF tb [(50, s50), (97, s97), (42, s42), (98, s98)] (la67 a k) noA Try.f67 (e67 a k) [.val AR a, .val I64 k] H) = (
  ((!decide (F.aright a = (0 : Int))) = true → [] = F.cells a k ∧ True) ∧
  ((!decide (F.aright a = (0 : Int))) = false →
    ((-100 : Int) ≤ k ∧ k ≤ (100 : Int) ∧ (0 : Int) ≤ (↑a.shape.length : Int) ∧ (↑a.shape.length : Int) ≤ (100 : Int)) ∧
      inR IntKind.i64 ((↑a.shape.length : Int) - F.rank k (↑a.shape.length : Int)) ∧
        ((0 : Int) ≤ (0 : Int) ∧ (0 : Int) ≤ (↑a.shape.length : Int) - F.rank k (↑a.shape.length : Int) ∧ (↑a.shape.length : Int) - F.rank k (↑a.shape.length : Int) ≤ (↑a.shape.length : Int)) ∧
          ((0 : Int) ≤ (↑a.shape.length : Int) - F.rank k (↑a.shape.length : Int) ∧
              (↑a.shape.length : Int) - F.rank k (↑a.shape.length : Int) ≤ (↑a.shape.length : Int) ∧ (↑a.shape.length : Int) ≤ (↑a.shape.length : Int)) ∧
            ((0 : Int) ≤ (0 : Int) ∧
                (0 : Int) ≤ F.ssize (List.take ((↑a.shape.length : Int) - F.rank k (↑a.shape.length : Int)).toNat a.shape) ∧
                  F.ssize (List.take ((↑a.shape.length : Int) - F.rank k (↑a.shape.length : Int)).toNat a.shape) < (↑LIM : Int)) ∧
              (∃ (q1 : Nat), (q1 ≤ (F.cells a k).length ∧ True) ∧ (0 : Int) = (↑q1 : Int) ∧ List.replicate (Int.toNat (0 : Int)) (Arr.mk (0 : Int) [] [] []) = List.take q1 (F.cells a k) ∧ True) ∧
                ∀ (q1 : Nat),
                  q1 ≤ (F.cells a k).length ∧ True →
                    (decide ((↑q1 : Int) < F.ssize (List.take ((↑a.shape.length : Int) - F.rank k (↑a.shape.length : Int)).toNat a.shape)) = true →
                        inR IntKind.i64 ((↑q1 : Int) * F.ssize (List.drop ((↑a.shape.length : Int) - F.rank k (↑a.shape.length : Int)).toNat a.shape)) ∧
                          ((0 : Int) ≤ (↑a.shape.length : Int) - F.rank k (↑a.shape.length : Int) ∧
                              (↑a.shape.length : Int) - F.rank k (↑a.shape.length : Int) ≤ (↑a.shape.length : Int) ∧ (↑a.shape.length : Int) ≤ (↑a.shape.length : Int)) ∧
                            ((0 : Int) ≤ (↑q1 : Int) * F.ssize (List.drop ((↑a.shape.length : Int) - F.rank k (↑a.shape.length : Int)).toNat a.shape) ∧
                                (0 : Int) ≤ F.ssize (List.drop ((↑a.shape.length : Int) - F.rank k (↑a.shape.length : Int)).toNat a.shape) ∧
                                  (↑q1 : Int) * F.ssize (List.drop ((↑a.shape.length : Int) - F.rank k (↑a.shape.length : Int)).toNat a.shape) +
                                      F.ssize (List.drop ((↑a.shape.length : Int) - F.rank k (↑a.shape.length : Int)).toNat a.shape) ≤
                                    if a.kind = (3 : Int) then (↑a.items.length : Int) else (↑a.nums.length : Int)) ∧
                              (List.take q1 (F.cells a k) ++
                                      [F.part a ((↑q1 : Int) * F.ssize (List.drop ((↑a.shape.length : Int) - F.rank k (↑a.shape.length : Int)).toNat a.shape))
                                          (F.ssize (List.drop ((↑a.shape.length : Int) - F.rank k (↑a.shape.length : Int)).toNat a.shape))
                                          (List.drop ((↑a.shape.length : Int) - F.rank k (↑a.shape.length : Int)).toNat a.shape)]).length <
                                  LIM ∧
                                inR IntKind.i64 ((↑q1 : Int) + (1 : Int)) ∧
                                  ∃ (q4 : Nat),
                                    (q4 ≤ (F.cells a k).length ∧ True) ∧
                                      (F.cells a k).length - q4 < (F.cells a k).length - q1 ∧
                                        (↑q1 : Int) + (1 : Int) = (↑q4 : Int) ∧
                                          List.take q1 (F.cells a k) ++
                                                [F.part a ((↑q1 : Int) * F.ssize (List.drop ((↑a.shape.length : Int) - F.rank k (↑a.shape.length : Int)).toNat a.shape))
                                                    (F.ssize (List.drop ((↑a.shape.length : Int) - F.rank k (↑a.shape.length : Int)).toNat a.shape))
                                                    (List.drop ((↑a.shape.length : Int) - F.rank k (↑a.shape.length : Int)).toNat a.shape)] =
                                              List.take q4 (F.cells a k) ∧
                                            True) ∧
                      (decide ((↑q1 : Int) < F.ssize (List.take ((↑a.shape.length : Int) - F.rank k (↑a.shape.length : Int)).toNat a.shape)) = false → List.take q1 (F.cells a k) = F.cells a k ∧ True))) := by kernel_rfl

def s99 : Spec := sp1 SI fun l => ret I64 (F.orL l)
def la99 (s : List Int) : Nat → Option (AState → Ann)
  | 3 => some (annT Nat (fun i => [(8, .val I64 (i : Int))]) (fun i => i ≤ s.length ∧ F.orL s = F.orL (s.drop i)) (fun i => s.length - i))
  | _ => none
theorem wp99 (l : List Int) (H : Heap) :
    (wpF tb [] (la99 l) noA Try.f99 (ret I64 (F.orL l)) [.val SI l] H) = (
  (∃ (q0 : Nat), (q0 ≤ l.length ∧ F.orL l = F.orL (List.drop q0 l)) ∧ (0 : Int) = (↑q0 : Int) ∧ True) ∧
  ∀ (q0 : Nat),
    q0 ≤ l.length ∧ F.orL l = F.orL (List.drop q0 l) →
      (decide ((↑q0 : Int) < (↑l.length : Int)) = true →
          idxRange (↑q0 : Int) l.length ∧
            ((!decide (l.getD (↑q0 : Int).toNat (0 : Int) = (0 : Int))) = true → l.getD (↑q0 : Int).toNat (0 : Int) = F.orL l ∧ True) ∧
              ((!decide (l.getD (↑q0 : Int).toNat (0 : Int) = (0 : Int))) = false →
                inR IntKind.i64 ((↑q0 : Int) + (1 : Int)) ∧
                  ∃ (q4 : Nat), (q4 ≤ l.length ∧ F.orL l = F.orL (List.drop q4 l)) ∧ l.length - q4 < l.length - q0 ∧ (↑q0 : Int) + (1 : Int) = (↑q4 : Int) ∧ True)) ∧
        (decide ((↑q0 : Int) < (↑l.length : Int)) = false → (0 : Int) = F.orL l ∧ True)) := by kernel_rfl

def e115 (x : Int) : Eff := ret .bool false
def s115 : Spec := sp1 I64 e115
theorem wp115 (x : Int) (H : Heap) :
    (wpF tb [] noA noA Try.f115 (e115 x) [.val I64 x] H) = (
  (!decide (x = x)) = false ∧ True) := by kernel_rfl

theorem wp116 (x : Int) (H : Heap) :
    (wpF tb [] noA noA Try.f116 (e115 x) [.val I64 x] H) = (
  (!decide (x = x)) = false ∧ True) := by kernel_rfl

def s100 : Spec := sp2 I64 I64 fun x y => ret I64 (F.cmpI x y)
theorem wp100 (x y : Int) (H : Heap) :
    (wpF tb [(115, s115)] noA noA Try.f100 (ret I64 (F.cmpI x y)) [.val I64 x, .val I64 y] H) = (
  (false = true → (false = true → (0 : Int) = F.cmpI x y ∧ True) ∧ (false = false → (-1 : Int) = F.cmpI x y ∧ True)) ∧
  (false = false →
    (false = true → (1 : Int) = F.cmpI x y ∧ True) ∧
      (false = false →
        (decide (x < y) = true → (-1 : Int) = F.cmpI x y ∧ True) ∧
          (decide (x < y) = false → (decide (y < x) = true → (1 : Int) = F.cmpI x y ∧ True) ∧ (decide (y < x) = false → (0 : Int) = F.cmpI x y ∧ True))))) := by kernel_rfl

theorem wp101 (x y : Int) (H : Heap) :
    (wpF tb [(116, s115)] noA noA Try.f101 (ret I64 (F.cmpI x y)) [.val I64 x, .val I64 y] H) = (
  (false = true → (false = true → (0 : Int) = F.cmpI x y ∧ True) ∧ (false = false → (-1 : Int) = F.cmpI x y ∧ True)) ∧
  (false = false →
    (false = true → (1 : Int) = F.cmpI x y ∧ True) ∧
      (false = false →
        (decide (x < y) = true → (-1 : Int) = F.cmpI x y ∧ True) ∧
          (decide (x < y) = false → (decide (y < x) = true → (1 : Int) = F.cmpI x y ∧ True) ∧ (decide (y < x) = false → (0 : Int) = F.cmpI x y ∧ True))))) := by kernel_rfl

def s103 : Spec := sp2 SI SI fun x y => ret I64 (F.lexL F.cmpI x y)
def la103 (s t : List Int) : Nat → Option (AState → Ann)
  | 2 => some (annT Nat (fun i => [(11, .val I64 (i : Int))]) (fun i => i ≤ s.length ∧ i ≤ t.length ∧ F.lexL F.cmpI s t = F.lexL F.cmpI (s.drop i) (t.drop i)) (fun i => s.length - i))
  | _ => none
theorem wp103 (s t : List Int) (H : Heap) :
    (wpF tb [(101, s100)] (la103 s t) noA Try.f103 (ret I64 (F.lexL F.cmpI s t)) [.val SI s, .val SI t] H) = (
  (∃ (q0 : Nat), (q0 ≤ s.length ∧ q0 ≤ t.length ∧ F.lexL F.cmpI s t = F.lexL F.cmpI (List.drop q0 s) (List.drop q0 t)) ∧ (0 : Int) = (↑q0 : Int) ∧ True) ∧
  ∀ (q0 : Nat),
    q0 ≤ s.length ∧ q0 ≤ t.length ∧ F.lexL F.cmpI s t = F.lexL F.cmpI (List.drop q0 s) (List.drop q0 t) →
      (decide ((↑q0 : Int) < (↑s.length : Int)) = true →
          idxRange (↑q0 : Int) s.length ∧
            (decide ((↑t.length : Int) ≤ (↑q0 : Int)) = true → (1 : Int) = F.lexL F.cmpI s t ∧ True) ∧
              (decide ((↑t.length : Int) ≤ (↑q0 : Int)) = false →
                idxRange (↑q0 : Int) t.length ∧
                  ((!decide (F.cmpI (s.getD (↑q0 : Int).toNat (0 : Int)) (t.getD (↑q0 : Int).toNat (0 : Int)) = (0 : Int))) = true →
                      F.cmpI (s.getD (↑q0 : Int).toNat (0 : Int)) (t.getD (↑q0 : Int).toNat (0 : Int)) = F.lexL F.cmpI s t ∧ True) ∧
                    ((!decide (F.cmpI (s.getD (↑q0 : Int).toNat (0 : Int)) (t.getD (↑q0 : Int).toNat (0 : Int)) = (0 : Int))) = false →
                      inR IntKind.i64 ((↑q0 : Int) + (1 : Int)) ∧
                        ∃ (q5 : Nat),
                          (q5 ≤ s.length ∧ q5 ≤ t.length ∧ F.lexL F.cmpI s t = F.lexL F.cmpI (List.drop q5 s) (List.drop q5 t)) ∧
                            s.length - q5 < s.length - q0 ∧ (↑q0 : Int) + (1 : Int) = (↑q5 : Int) ∧ True))) ∧
        (decide ((↑q0 : Int) < (↑s.length : Int)) = false →
          (decide ((↑s.length : Int) < (↑t.length : Int)) = true → (-1 : Int) = F.lexL F.cmpI s t ∧ True) ∧
            (decide ((↑s.length : Int) < (↑t.length : Int)) = false → (0 : Int) = F.lexL F.cmpI s t ∧ True))) := by kernel_rfl

def e33 (a b : Int × Arr) : Eff := ret I64 (F.rowc a b)
def s34 : Spec := sp2 AR AR fun x y => ret I64 (F.compare x y)
def e68 (x y : Arr) : Eff := retP (F.aright x = 0 ∧ F.aright y = 0) I64 (F.cmp x y)
def s68 : Spec := sp2 AR AR e68
theorem wp34 (x y : Arr) (H : Heap) :
    (wpF tb [(50, s50), (68, s68)] noA noA Try.f34 (ret I64 (F.compare x y)) [.val AR x, .val AR y] H) = (
  ((bif !decide (F.aright x = (0 : Int)) then true else !decide (F.aright y = (0 : Int))) = true → (0 : Int) = F.compare x y ∧ True) ∧
  ((bif !decide (F.aright x = (0 : Int)) then true else !decide (F.aright y = (0 : Int))) = false → (F.aright x = (0 : Int) ∧ F.aright y = (0 : Int)) ∧ F.cmp x y = F.compare x y ∧ True)) := by kernel_rfl

def s33 : Spec := sp2 ROW ROW e33
theorem wp33 (x y : Int × Arr) (H : Heap) :
    (wpF tb [(34, s34)] noA noA Try.f33 (e33 x y) [.val ROW x, .val ROW y] H) = (
  F.compare x.snd y.snd = F.rowc x y ∧ True) := by kernel_rfl

theorem wp36 (x y : Int × Arr) (H : Heap) :
    (wpF tb [(34, s34)] noA noA Try.f36 (e33 x y) [.val ROW x, .val ROW y] H) = (
  F.compare x.snd y.snd = F.rowc x y ∧ True) := by kernel_rfl

def e30 (y : Arr) : Eff := ⟨[F.aright y = 0 ∧ y.shape ≠ []], .tup (.ofL [.own ROW (F.rows y), .val I64 (0 : Int)]), []⟩
def s30 : Spec := sp1 AR e30
def la30 (y : Arr) : Nat → Option (AState → Ann)
  | 7 => some (annT Nat (fun i => [(23, .val I64 (i : Int)), (4, .own ROW ((F.rows y).take i))]) (fun i => i ≤ (F.rows y).length ∧ True) (fun i => (F.rows y).length - i))
  | _ => none
theorem wp30 (y : Arr) (H : Heap) :
    (wpF tb [(50, s50), (67, s67)] (la30 y) noA Try.f30 (e30 y) [.val AR y] H) = (
  ((!decide (F.aright y = (0 : Int))) = true → [] = F.rows y ∧ (1 : Int) = (0 : Int) ∧ True) ∧
  ((!decide (F.aright y = (0 : Int))) = false →
    (decide ((↑y.shape.length : Int) = (0 : Int)) = true → [] = F.rows y ∧ (15 : Int) = (0 : Int) ∧ True) ∧
      (decide ((↑y.shape.length : Int) = (0 : Int)) = false →
        inR IntKind.i64 ((↑y.shape.length : Int) - (1 : Int)) ∧
          ((-100 : Int) ≤ (↑y.shape.length : Int) - (1 : Int) ∧ (↑y.shape.length : Int) - (1 : Int) ≤ (100 : Int)) ∧
            (∃ (q2 : Nat), (q2 ≤ (F.rows y).length ∧ True) ∧ (0 : Int) = (↑q2 : Int) ∧ [] = List.take q2 (F.rows y) ∧ True) ∧
              ∀ (q2 : Nat),
                q2 ≤ (F.rows y).length ∧ True →
                  (decide ((↑q2 : Int) < (↑(F.cells y ((↑y.shape.length : Int) - (1 : Int))).length : Int)) = true →
                      idxRange (↑q2 : Int) (F.cells y ((↑y.shape.length : Int) - (1 : Int))).length ∧
                        (List.take q2 (F.rows y) ++ [((↑q2 : Int), (F.cells y ((↑y.shape.length : Int) - (1 : Int))).getD (↑q2 : Int).toNat (Arr.mk (0 : Int) [] [] []))]).length < LIM ∧
                          inR IntKind.i64 ((↑q2 : Int) + (1 : Int)) ∧
                            ∃ (q5 : Nat),
                              (q5 ≤ (F.rows y).length ∧ True) ∧
                                (F.rows y).length - q5 < (F.rows y).length - q2 ∧
                                  (↑q2 : Int) + (1 : Int) = (↑q5 : Int) ∧
                                    List.take q2 (F.rows y) ++ [((↑q2 : Int), (F.cells y ((↑y.shape.length : Int) - (1 : Int))).getD (↑q2 : Int).toNat (Arr.mk (0 : Int) [] [] []))] =
                                        List.take q5 (F.rows y) ∧
                                      True) ∧
                    (decide ((↑q2 : Int) < (↑(F.cells y ((↑y.shape.length : Int) - (1 : Int))).length : Int)) = false → List.take q2 (F.rows y) = F.rows y ∧ (0 : Int) = (0 : Int) ∧ True)))) := by kernel_rfl

def s31 : Spec := sp1 (.sl ROW) fun l => ret AR (F.numbers l)
def la31 (l : List (Int × Arr)) : Nat → Option (AState → Ann)
  | 3 => some fun _ => { P := Nat, vars := fun i => [(12, .val I64 (i : Int))], objs := fun i => [(3, .st (.ofL [.val I64 (1 : Int), .own I64 [(l.length : Int)], .own I64 ((l.take i).map (·.1)), .nils]))], inv := fun i => i ≤ l.length ∧ True, mea := fun i => l.length - i }
  | _ => none
theorem wp31 (l : List (Int × Arr)) (H : Heap) :
    (wpF tb [] (la31 l) noA Try.f31 (ret AR (F.numbers l)) [.val (.sl ROW) l] H) = (
  (∃ (q0 : Nat),
    (q0 ≤ l.length ∧ True) ∧ (0 : Int) = (↑q0 : Int) ∧ (1 : Int) = (1 : Int) ∧ [(↑l.length : Int)] = [(↑l.length : Int)] ∧ [] = List.map (fun (q1 : Int × Arr) => q1.fst) (List.take q0 l) ∧ True) ∧
  ∀ (q0 : Nat),
    q0 ≤ l.length ∧ True →
      (decide ((↑q0 : Int) < (↑l.length : Int)) = true →
          idxRange (↑q0 : Int) l.length ∧
            (List.map (fun (q3 : Int × Arr) => q3.fst) (List.take q0 l) ++ [(l.getD (↑q0 : Int).toNat ((0 : Int), Arr.mk (0 : Int) [] [] [])).fst]).length < LIM ∧
              inR IntKind.i64 ((↑q0 : Int) + (1 : Int)) ∧
                ∃ (q3 : Nat),
                  (q3 ≤ l.length ∧ True) ∧
                    l.length - q3 < l.length - q0 ∧
                      (↑q0 : Int) + (1 : Int) = (↑q3 : Int) ∧
                        (1 : Int) = (1 : Int) ∧
                          [(↑l.length : Int)] = [(↑l.length : Int)] ∧
                            List.map (fun (q4 : Int × Arr) => q4.fst) (List.take q0 l) ++ [(l.getD (↑q0 : Int).toNat ((0 : Int), Arr.mk (0 : Int) [] [] [])).fst] =
                                List.map (fun (q4 : Int × Arr) => q4.fst) (List.take q3 l) ∧
                              True) ∧
        (decide ((↑q0 : Int) < (↑l.length : Int)) = false → Arr.mk (1 : Int) [(↑l.length : Int)] (List.map (fun (q3 : Int × Arr) => q3.fst) (List.take q0 l)) [] = F.numbers l ∧ True)) := by kernel_rfl

def e32 (l : List (Int × Arr)) (pre : Int × Arr → Int × Arr → Prop) (c : Int × Arr → Int × Arr → Int) : Eff := retP (∀ x ∈ l, ∀ y ∈ l, pre x y) (.sl ROW) (F.sort c l)
def e32n (n : Nat) (l : List (Int × Arr)) (pre : Int × Arr → Int × Arr → Prop) (c : Int × Arr → Int × Arr → Int) : Eff := ltE (l.length < n) (e32 l pre c)
def la32 (l : List (Int × Arr)) (c : Int × Arr → Int × Arr → Int) : Nat → Option (AState → Ann)
  | 5 => some (annT (List (Int × Arr) × List (Int × Arr) × List (Int × Arr)) (fun p => [(5, .val (.sl ROW) p.1), (6, .val (.sl ROW) p.2.1), (7, .own ROW p.2.2)]) (fun p => F.sort c l = p.2.2 ++ F.mergeL c p.1 p.2.1 ∧ p.1.length + p.2.1.length + p.2.2.length = l.length ∧ (∀ x ∈ p.1, x ∈ l) ∧ (∀ x ∈ p.2.1, x ∈ l)) (fun p => p.1.length + p.2.1.length))
  | _ => none
theorem wp32 (l : List (Int × Arr)) (pre : Int × Arr → Int × Arr → Prop) (c : Int × Arr → Int × Arr → Int) (H : Heap) (n : Nat) :
    (wpF tb [(32, spG2 (.sl ROW) ROW ROW I64 (e32n n))] (la32 l c) noA Try.f32 (e32 l pre c) [.val (.sl ROW) l, .fnp2 ROW ROW I64 pre c] H) = (
  (decide ((↑l.length : Int) < (2 : Int)) = true → l = F.sort c l ∧ True) ∧
  (decide ((↑l.length : Int) < (2 : Int)) = false →
    ((2 : Int) = (0 : Int) → False) ∧
      inR IntKind.i64 ((↑l.length : Int).tdiv (2 : Int)) ∧
        ((0 : Int) ≤ (0 : Int) ∧ (0 : Int) ≤ (↑l.length : Int).tdiv (2 : Int) ∧ (↑l.length : Int).tdiv (2 : Int) ≤ (↑l.length : Int)) ∧
          (List.take ((↑l.length : Int).tdiv (2 : Int)).toNat l).length < n ∧
            (∀ (q1 : Int × Arr), q1 ∈ List.take ((↑l.length : Int).tdiv (2 : Int)).toNat l → ∀ (q3 : Int × Arr), q3 ∈ List.take ((↑l.length : Int).tdiv (2 : Int)).toNat l → pre q1 q3) ∧
              ((2 : Int) = (0 : Int) → False) ∧
                inR IntKind.i64 ((↑l.length : Int).tdiv (2 : Int)) ∧
                  ((0 : Int) ≤ (↑l.length : Int).tdiv (2 : Int) ∧ (↑l.length : Int).tdiv (2 : Int) ≤ (↑l.length : Int) ∧ (↑l.length : Int) ≤ (↑l.length : Int)) ∧
                    (List.drop ((↑l.length : Int).tdiv (2 : Int)).toNat l).length < n ∧
                      (∀ (q1 : Int × Arr), q1 ∈ List.drop ((↑l.length : Int).tdiv (2 : Int)).toNat l → ∀ (q3 : Int × Arr), q3 ∈ List.drop ((↑l.length : Int).tdiv (2 : Int)).toNat l → pre q1 q3) ∧
                        ((0 : Int) ≤ (0 : Int) ∧ (0 : Int) ≤ (↑l.length : Int) ∧ (↑l.length : Int) < (↑LIM : Int)) ∧
                          (∃ (q1 : List (Int × Arr) × List (Int × Arr) × List (Int × Arr)),
                              (F.sort c l = q1.snd.snd ++ F.mergeL c q1.fst q1.snd.fst ∧
                                  q1.fst.length + q1.snd.fst.length + q1.snd.snd.length = l.length ∧ (∀ (q2 : Int × Arr), q2 ∈ q1.fst → q2 ∈ l) ∧ ∀ (q2 : Int × Arr), q2 ∈ q1.snd.fst → q2 ∈ l) ∧
                                F.sort (fun (q2 q3 : Int × Arr) => c q2 q3) (List.take ((↑l.length : Int).tdiv (2 : Int)).toNat l) = q1.fst ∧
                                  F.sort (fun (q2 q3 : Int × Arr) => c q2 q3) (List.drop ((↑l.length : Int).tdiv (2 : Int)).toNat l) = q1.snd.fst ∧
                                    List.replicate (Int.toNat (0 : Int)) ((0 : Int), Arr.mk (0 : Int) [] [] []) = q1.snd.snd ∧ True) ∧
                            ∀ (q1 : List (Int × Arr) × List (Int × Arr) × List (Int × Arr)),
                              (F.sort c l = q1.snd.snd ++ F.mergeL c q1.fst q1.snd.fst ∧
                                  q1.fst.length + q1.snd.fst.length + q1.snd.snd.length = l.length ∧ (∀ (q2 : Int × Arr), q2 ∈ q1.fst → q2 ∈ l) ∧ ∀ (q2 : Int × Arr), q2 ∈ q1.snd.fst → q2 ∈ l) →
                                ((bif decide ((0 : Int) < (↑q1.fst.length : Int)) then decide ((0 : Int) < (↑q1.snd.fst.length : Int)) else false) = true →
                                    idxRange (0 : Int) q1.fst.length ∧
                                      idxRange (0 : Int) q1.snd.fst.length ∧
                                        pre (q1.fst.getD (Int.toNat (0 : Int)) ((0 : Int), Arr.mk (0 : Int) [] [] [])) (q1.snd.fst.getD (Int.toNat (0 : Int)) ((0 : Int), Arr.mk (0 : Int) [] [] [])) ∧
                                          (decide
                                                  (c (q1.fst.getD (Int.toNat (0 : Int)) ((0 : Int), Arr.mk (0 : Int) [] [] []))
                                                      (q1.snd.fst.getD (Int.toNat (0 : Int)) ((0 : Int), Arr.mk (0 : Int) [] [] [])) ≤
                                                    (0 : Int)) =
                                                true →
                                              idxRange (0 : Int) q1.fst.length ∧
                                                (q1.snd.snd ++ [q1.fst.getD (Int.toNat (0 : Int)) ((0 : Int), Arr.mk (0 : Int) [] [] [])]).length < LIM ∧
                                                  ((0 : Int) ≤ (1 : Int) ∧ (1 : Int) ≤ (↑q1.fst.length : Int) ∧ (↑q1.fst.length : Int) ≤ (↑q1.fst.length : Int)) ∧
                                                    ∃ (q5 : List (Int × Arr) × List (Int × Arr) × List (Int × Arr)),
                                                      (F.sort c l = q5.snd.snd ++ F.mergeL c q5.fst q5.snd.fst ∧
                                                          q5.fst.length + q5.snd.fst.length + q5.snd.snd.length = l.length ∧
                                                            (∀ (q6 : Int × Arr), q6 ∈ q5.fst → q6 ∈ l) ∧ ∀ (q6 : Int × Arr), q6 ∈ q5.snd.fst → q6 ∈ l) ∧
                                                        q5.fst.length + q5.snd.fst.length < q1.fst.length + q1.snd.fst.length ∧
                                                          List.drop (Int.toNat (1 : Int)) q1.fst = q5.fst ∧
                                                            q1.snd.fst = q5.snd.fst ∧ q1.snd.snd ++ [q1.fst.getD (Int.toNat (0 : Int)) ((0 : Int), Arr.mk (0 : Int) [] [] [])] = q5.snd.snd ∧ True) ∧
                                            (decide
                                                  (c (q1.fst.getD (Int.toNat (0 : Int)) ((0 : Int), Arr.mk (0 : Int) [] [] []))
                                                      (q1.snd.fst.getD (Int.toNat (0 : Int)) ((0 : Int), Arr.mk (0 : Int) [] [] [])) ≤
                                                    (0 : Int)) =
                                                false →
                                              idxRange (0 : Int) q1.snd.fst.length ∧
                                                (q1.snd.snd ++ [q1.snd.fst.getD (Int.toNat (0 : Int)) ((0 : Int), Arr.mk (0 : Int) [] [] [])]).length < LIM ∧
                                                  ((0 : Int) ≤ (1 : Int) ∧ (1 : Int) ≤ (↑q1.snd.fst.length : Int) ∧ (↑q1.snd.fst.length : Int) ≤ (↑q1.snd.fst.length : Int)) ∧
                                                    ∃ (q5 : List (Int × Arr) × List (Int × Arr) × List (Int × Arr)),
                                                      (F.sort c l = q5.snd.snd ++ F.mergeL c q5.fst q5.snd.fst ∧
                                                          q5.fst.length + q5.snd.fst.length + q5.snd.snd.length = l.length ∧
                                                            (∀ (q6 : Int × Arr), q6 ∈ q5.fst → q6 ∈ l) ∧ ∀ (q6 : Int × Arr), q6 ∈ q5.snd.fst → q6 ∈ l) ∧
                                                        q5.fst.length + q5.snd.fst.length < q1.fst.length + q1.snd.fst.length ∧
                                                          q1.fst = q5.fst ∧
                                                            List.drop (Int.toNat (1 : Int)) q1.snd.fst = q5.snd.fst ∧
                                                              q1.snd.snd ++ [q1.snd.fst.getD (Int.toNat (0 : Int)) ((0 : Int), Arr.mk (0 : Int) [] [] [])] = q5.snd.snd ∧ True)) ∧
                                  ((bif decide ((0 : Int) < (↑q1.fst.length : Int)) then decide ((0 : Int) < (↑q1.snd.fst.length : Int)) else false) = false →
                                    (q1.snd.snd ++ q1.fst).length < LIM ∧ (q1.snd.snd ++ q1.fst ++ q1.snd.fst).length < LIM ∧ q1.snd.snd ++ q1.fst ++ q1.snd.fst = F.sort c l ∧ True))) := by kernel_rfl

def e9 (y : Arr) : Eff := retP2 (F.aright y = 0 ∧ y.shape ≠ []) AR I64 (F.up y) (0 : Int)
def s9 : Spec := sp1 AR e9
theorem wp9 (y : Arr) (H : Heap) :
    (wpF tb [(30, s30), (32, spG2 (.sl ROW) ROW ROW I64 e32), (31, s31), (33, s33)] noA noA Try.f9 (e9 y) [.val AR y] H) = (
  (F.aright y = (0 : Int) ∧ y.shape ≠ []) ∧
  ((!decide ((0 : Int) = (0 : Int))) = true → Arr.mk (0 : Int) [] [] [] = F.up y ∧ (0 : Int) = (0 : Int) ∧ True) ∧
    ((!decide ((0 : Int) = (0 : Int))) = false →
      (∀ (q1 : Int × Arr), q1 ∈ F.rows y → ∀ (q3 : Int × Arr), q3 ∈ F.rows y → True) ∧ F.numbers (F.sort (fun (q1 q2 : Int × Arr) => F.rowc q1 q2) (F.rows y)) = F.up y ∧ (0 : Int) = (0 : Int) ∧ True)) := by kernel_rfl

def e10 (y : Arr) : Eff := retP2 (F.aright y = 0 ∧ y.shape ≠ [] ∧ (F.sorted y).nums.length < 4294967296 ∧ (F.sorted y).items.length < 4294967296) AR I64 (F.sorted y) (0 : Int)
def s10 : Spec := sp1 AR e10
def la10 (y : Arr) : Nat → Option (AState → Ann)
  | 6 => some fun _ => { P := Nat, vars := fun i => [(27, .val I64 (i : Int))], objs := fun i => [(6, .st (.ofL [.val I64 y.kind, .own I64 y.shape, .own I64 ((((F.sort F.rowc (F.rows y)).take i).map fun r => r.2.nums).flatten), .own AR ((((F.sort F.rowc (F.rows y)).take i).map fun r => r.2.items).flatten)]))], inv := fun i => i ≤ (F.sort F.rowc (F.rows y)).length ∧ True, mea := fun i => (F.sort F.rowc (F.rows y)).length - i }
  | _ => none
theorem wp10 (y : Arr) (H : Heap) :
    (wpF tb [(30, s30), (32, spG2 (.sl ROW) ROW ROW I64 e32), (35, s35), (36, s33)] (la10 y) noA Try.f10 (e10 y) [.val AR y] H) = (
  (F.aright y = (0 : Int) ∧ y.shape ≠ []) ∧
  ((!decide ((0 : Int) = (0 : Int))) = true → Arr.mk (0 : Int) [] [] [] = F.sorted y ∧ (0 : Int) = (0 : Int) ∧ True) ∧
    ((!decide ((0 : Int) = (0 : Int))) = false →
      (∀ (q1 : Int × Arr), q1 ∈ F.rows y → ∀ (q3 : Int × Arr), q3 ∈ F.rows y → True) ∧
        (∃ (q1 : Nat),
            (q1 ≤ (F.sort F.rowc (F.rows y)).length ∧ True) ∧
              (0 : Int) = (↑q1 : Int) ∧
                y.kind = y.kind ∧
                  y.shape = y.shape ∧
                    [] = (List.map (fun (q2 : Int × Arr) => q2.snd.nums) (List.take q1 (F.sort F.rowc (F.rows y)))).flatten ∧
                      [] = (List.map (fun (q2 : Int × Arr) => q2.snd.items) (List.take q1 (F.sort F.rowc (F.rows y)))).flatten ∧ True) ∧
          ∀ (q1 : Nat),
            q1 ≤ (F.sort F.rowc (F.rows y)).length ∧ True →
              (decide ((↑q1 : Int) < (↑(F.sort (fun (q3 q4 : Int × Arr) => F.rowc q3 q4) (F.rows y)).length : Int)) = true →
                  idxRange (↑q1 : Int) (F.sort (fun (q4 q5 : Int × Arr) => F.rowc q4 q5) (F.rows y)).length ∧
                    ((List.map (fun (q4 : Int × Arr) => q4.snd.nums) (List.take q1 (F.sort F.rowc (F.rows y)))).flatten ++
                            ((F.sort (fun (q4 q5 : Int × Arr) => F.rowc q4 q5) (F.rows y)).getD (↑q1 : Int).toNat ((0 : Int), Arr.mk (0 : Int) [] [] [])).snd.nums).length <
                        LIM ∧
                      ((List.map (fun (q4 : Int × Arr) => q4.snd.items) (List.take q1 (F.sort F.rowc (F.rows y)))).flatten ++
                              ((F.sort (fun (q4 q5 : Int × Arr) => F.rowc q4 q5) (F.rows y)).getD (↑q1 : Int).toNat ((0 : Int), Arr.mk (0 : Int) [] [] [])).snd.items).length <
                          LIM ∧
                        inR IntKind.i64 ((↑q1 : Int) + (1 : Int)) ∧
                          ∃ (q4 : Nat),
                            (q4 ≤ (F.sort F.rowc (F.rows y)).length ∧ True) ∧
                              (F.sort F.rowc (F.rows y)).length - q4 < (F.sort F.rowc (F.rows y)).length - q1 ∧
                                (↑q1 : Int) + (1 : Int) = (↑q4 : Int) ∧
                                  y.kind = y.kind ∧
                                    y.shape = y.shape ∧
                                      (List.map (fun (q5 : Int × Arr) => q5.snd.nums) (List.take q1 (F.sort F.rowc (F.rows y)))).flatten ++
                                            ((F.sort (fun (q5 q6 : Int × Arr) => F.rowc q5 q6) (F.rows y)).getD (↑q1 : Int).toNat ((0 : Int), Arr.mk (0 : Int) [] [] [])).snd.nums =
                                          (List.map (fun (q5 : Int × Arr) => q5.snd.nums) (List.take q4 (F.sort F.rowc (F.rows y)))).flatten ∧
                                        (List.map (fun (q5 : Int × Arr) => q5.snd.items) (List.take q1 (F.sort F.rowc (F.rows y)))).flatten ++
                                              ((F.sort (fun (q5 q6 : Int × Arr) => F.rowc q5 q6) (F.rows y)).getD (↑q1 : Int).toNat ((0 : Int), Arr.mk (0 : Int) [] [] [])).snd.items =
                                            (List.map (fun (q5 : Int × Arr) => q5.snd.items) (List.take q4 (F.sort F.rowc (F.rows y)))).flatten ∧
                                          True) ∧
                (decide ((↑q1 : Int) < (↑(F.sort (fun (q3 q4 : Int × Arr) => F.rowc q3 q4) (F.rows y)).length : Int)) = false →
                  Arr.mk y.kind y.shape (List.map (fun (q4 : Int × Arr) => q4.snd.nums) (List.take q1 (F.sort F.rowc (F.rows y)))).flatten
                        (List.map (fun (q4 : Int × Arr) => q4.snd.items) (List.take q1 (F.sort F.rowc (F.rows y)))).flatten =
                      F.sorted y ∧
                    (0 : Int) = (0 : Int) ∧ True))) := by kernel_rfl

def eCel (r : Int) (a b : Arr) (ax i j : Int) : Eff := retP (F.celPre r a b ax i j) I64 (F.celA a b ax i j)
def mCel (a : Arr) (ax : Int) : Nat := 20 * F.sz a + (a.shape.length - ax.toNat)
def nCel (n : Nat) : Spec := spCells fun r a b ax i j => ltE (mCel a ax < n) (eCel r a b ax i j)
def nCmp (n : Nat) : Spec := sp2 AR AR fun x y => ltE (20 * F.sz x + 11 < n) (e68 x y)
def e102 (x y : Arr) : Eff := retP (F.aright x = 0 ∧ F.aright y = 0) I64 (F.contF F.cmp x y)
def nCon (n : Nat) : Spec := sp2 AR AR fun x y => ltE (20 * F.sz x + 10 < n) (e102 x y)
def la117 (a b : Arr) (ax i j : Int) : Nat → Option (AState → Ann)
  | 7 => some (annT Nat (fun k => [(73, .val I64 (k : Int))]) (fun k => (k : Int) ≤ a.shape.getD ax.toNat 0 ∧ (k : Int) ≤ b.shape.getD ax.toNat 0 ∧
      F.celA a b ax i j = F.lexL (F.celF F.cmp a b (a.shape.drop (ax + 1).toNat) (b.shape.drop (ax + 1).toNat)) ((F.kids (F.ssize (a.shape.drop (ax + 1).toNat)) (a.shape.getD ax.toNat 0) i).drop k) ((F.kids (F.ssize (b.shape.drop (ax + 1).toNat)) (b.shape.getD ax.toNat 0) j).drop k))
      (fun k => (a.shape.getD ax.toNat 0).toNat - k))
  | _ => none
theorem wp117 (r : Int) (a b : Arr) (ax i j : Int) (H : Heap) (n : Nat) :
    (wpA tb [(117, nCel n), (68, nCmp n), (42, s42), (101, s100)] false [] (la117 a b ax i j) noA (body Try.f117) (retQ tb Try.f117.results.toList (eCel r a b ax i j) (knw (celL r a b) H)) (entry [.val I64 ax, .val I64 i, .val I64 j, .ref 500000 0, .ref 500001 0, .ref 500002 0, .ref 500003 0] (knw (celL r a b) H))) = (
  ((bif decide (ax = r) then decide (a.kind = (3 : Int)) else false) = true →
    idxRange i a.items.length ∧
      idxRange j b.items.length ∧
        (20 : Nat) * F.sz (a.items.getD i.toNat (Arr.mk (0 : Int) [] [] [])) + (11 : Nat) < n ∧
          (F.aright (a.items.getD i.toNat (Arr.mk (0 : Int) [] [] [])) = (0 : Int) ∧ F.aright (b.items.getD j.toNat (Arr.mk (0 : Int) [] [] [])) = (0 : Int)) ∧
            F.cmp (a.items.getD i.toNat (Arr.mk (0 : Int) [] [] [])) (b.items.getD j.toNat (Arr.mk (0 : Int) [] [] [])) = F.celA a b ax i j ∧ True) ∧
  ((bif decide (ax = r) then decide (a.kind = (3 : Int)) else false) = false →
    (decide (ax = r) = true → idxRange i a.nums.length ∧ idxRange j b.nums.length ∧ F.cmpI (a.nums.getD i.toNat (0 : Int)) (b.nums.getD j.toNat (0 : Int)) = F.celA a b ax i j ∧ True) ∧
      (decide (ax = r) = false →
        inR IntKind.i64 (ax + (1 : Int)) ∧
          ((0 : Int) ≤ ax + (1 : Int) ∧ ax + (1 : Int) ≤ (↑a.shape.length : Int) ∧ (↑a.shape.length : Int) ≤ (↑a.shape.length : Int)) ∧
            inR IntKind.i64 (ax + (1 : Int)) ∧
              ((0 : Int) ≤ ax + (1 : Int) ∧ ax + (1 : Int) ≤ (↑b.shape.length : Int) ∧ (↑b.shape.length : Int) ≤ (↑b.shape.length : Int)) ∧
                idxRange ax a.shape.length ∧
                  idxRange ax b.shape.length ∧
                    (∃ (q2 : Nat),
                        ((↑q2 : Int) ≤ a.shape.getD ax.toNat (0 : Int) ∧
                            (↑q2 : Int) ≤ b.shape.getD ax.toNat (0 : Int) ∧
                              F.celA a b ax i j =
                                F.lexL (F.celF F.cmp a b (List.drop (ax + (1 : Int)).toNat a.shape) (List.drop (ax + (1 : Int)).toNat b.shape))
                                  (List.drop q2 (F.kids (F.ssize (List.drop (ax + (1 : Int)).toNat a.shape)) (a.shape.getD ax.toNat (0 : Int)) i))
                                  (List.drop q2 (F.kids (F.ssize (List.drop (ax + (1 : Int)).toNat b.shape)) (b.shape.getD ax.toNat (0 : Int)) j))) ∧
                          (0 : Int) = (↑q2 : Int) ∧ True) ∧
                      ∀ (q2 : Nat),
                        (↑q2 : Int) ≤ a.shape.getD ax.toNat (0 : Int) ∧
                            (↑q2 : Int) ≤ b.shape.getD ax.toNat (0 : Int) ∧
                              F.celA a b ax i j =
                                F.lexL (F.celF F.cmp a b (List.drop (ax + (1 : Int)).toNat a.shape) (List.drop (ax + (1 : Int)).toNat b.shape))
                                  (List.drop q2 (F.kids (F.ssize (List.drop (ax + (1 : Int)).toNat a.shape)) (a.shape.getD ax.toNat (0 : Int)) i))
                                  (List.drop q2 (F.kids (F.ssize (List.drop (ax + (1 : Int)).toNat b.shape)) (b.shape.getD ax.toNat (0 : Int)) j)) →
                          (decide ((↑q2 : Int) < min (a.shape.getD ax.toNat (0 : Int)) (b.shape.getD ax.toNat (0 : Int))) = true →
                              inR IntKind.i64 (ax + (1 : Int)) ∧
                                inR IntKind.i64 ((↑q2 : Int) * F.ssize (List.drop (ax + (1 : Int)).toNat a.shape)) ∧
                                  inR IntKind.i64 (i + (↑q2 : Int) * F.ssize (List.drop (ax + (1 : Int)).toNat a.shape)) ∧
                                    inR IntKind.i64 ((↑q2 : Int) * F.ssize (List.drop (ax + (1 : Int)).toNat b.shape)) ∧
                                      inR IntKind.i64 (j + (↑q2 : Int) * F.ssize (List.drop (ax + (1 : Int)).toNat b.shape)) ∧
                                        (20 : Nat) * F.sz a + (a.shape.length - (ax + (1 : Int)).toNat) < n ∧
                                          F.celPre r a b (ax + (1 : Int)) (i + (↑q2 : Int) * F.ssize (List.drop (ax + (1 : Int)).toNat a.shape))
                                              (j + (↑q2 : Int) * F.ssize (List.drop (ax + (1 : Int)).toNat b.shape)) ∧
                                            ((!decide
                                                      (F.celA a b (ax + (1 : Int)) (i + (↑q2 : Int) * F.ssize (List.drop (ax + (1 : Int)).toNat a.shape))
                                                          (j + (↑q2 : Int) * F.ssize (List.drop (ax + (1 : Int)).toNat b.shape)) =
                                                        (0 : Int))) =
                                                  true →
                                                F.celA a b (ax + (1 : Int)) (i + (↑q2 : Int) * F.ssize (List.drop (ax + (1 : Int)).toNat a.shape))
                                                      (j + (↑q2 : Int) * F.ssize (List.drop (ax + (1 : Int)).toNat b.shape)) =
                                                    F.celA a b ax i j ∧
                                                  True) ∧
                                              ((!decide
                                                      (F.celA a b (ax + (1 : Int)) (i + (↑q2 : Int) * F.ssize (List.drop (ax + (1 : Int)).toNat a.shape))
                                                          (j + (↑q2 : Int) * F.ssize (List.drop (ax + (1 : Int)).toNat b.shape)) =
                                                        (0 : Int))) =
                                                  false →
                                                inR IntKind.i64 ((↑q2 : Int) + (1 : Int)) ∧
                                                  ∃ (q6 : Nat),
                                                    ((↑q6 : Int) ≤ a.shape.getD ax.toNat (0 : Int) ∧
                                                        (↑q6 : Int) ≤ b.shape.getD ax.toNat (0 : Int) ∧
                                                          F.celA a b ax i j =
                                                            F.lexL (F.celF F.cmp a b (List.drop (ax + (1 : Int)).toNat a.shape) (List.drop (ax + (1 : Int)).toNat b.shape))
                                                              (List.drop q6 (F.kids (F.ssize (List.drop (ax + (1 : Int)).toNat a.shape)) (a.shape.getD ax.toNat (0 : Int)) i))
                                                              (List.drop q6 (F.kids (F.ssize (List.drop (ax + (1 : Int)).toNat b.shape)) (b.shape.getD ax.toNat (0 : Int)) j))) ∧
                                                      (a.shape.getD ax.toNat (0 : Int)).toNat - q6 < (a.shape.getD ax.toNat (0 : Int)).toNat - q2 ∧ (↑q2 : Int) + (1 : Int) = (↑q6 : Int) ∧ True)) ∧
                            (decide ((↑q2 : Int) < min (a.shape.getD ax.toNat (0 : Int)) (b.shape.getD ax.toNat (0 : Int))) = false →
                              idxRange ax a.shape.length ∧ idxRange ax b.shape.length ∧ F.cmpI (a.shape.getD ax.toNat (0 : Int)) (b.shape.getD ax.toNat (0 : Int)) = F.celA a b ax i j ∧ True)))) := by kernel_rfl

theorem wp102 (x y : Arr) (H : Heap) (n : Nat) :
    (wpF tb [(117, nCel n)] noA noA Try.f102 (e102 x y) [.val AR x, .val AR y] H) = (
  ((bif !decide (x.kind = y.kind) then true else !decide ((↑x.shape.length : Int) = (↑y.shape.length : Int))) = true → (0 : Int) = F.contF F.cmp x y ∧ True) ∧
  ((bif !decide (x.kind = y.kind) then true else !decide ((↑x.shape.length : Int) = (↑y.shape.length : Int))) = false →
    (20 : Nat) * F.sz x + (x.shape.length - Int.toNat (0 : Int)) < n ∧
      F.celPre (↑x.shape.length : Int) x y (0 : Int) (0 : Int) (0 : Int) ∧ F.celA x y (0 : Int) (0 : Int) (0 : Int) = F.contF F.cmp x y ∧ True)) := by kernel_rfl

theorem wp68 (x y : Arr) (H : Heap) (n : Nat) :
    (wpF tb [(102, nCon n), (100, s100), (101, s100), (103, s103), (99, s99)] noA noA Try.f68 (e68 x y) [.val AR x, .val AR y] H) = (
  (20 : Nat) * F.sz x + (10 : Nat) < n ∧
  (F.aright x = (0 : Int) ∧ F.aright y = (0 : Int)) ∧
    F.orL [F.cmpI x.kind y.kind, F.cmpI (↑x.shape.length : Int) (↑y.shape.length : Int), F.contF F.cmp x y, F.lexL F.cmpI x.shape y.shape] = F.cmp x y ∧ True) := by kernel_rfl

end A
end Go.Proofs.Ythgnjimpakpkjaa
