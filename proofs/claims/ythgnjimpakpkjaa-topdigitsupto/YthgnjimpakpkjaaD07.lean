/- Verification conditions: selection, iota, the law's own functions. Sizes and validity, plainly. The program's functions: cells, order, grades. The program's functions: the order of arrays, sorting. The program's functions: comparing arrays. The program's functions: selection, iota. Orders: lists, arrays; sorting. The reference check and the program's check; weights. Sorting rows: the law, plainly. What the functions compute: digits. -/
import Derived.Test.YthgnjimpakpkjaaD06
import Derived.Test.YthgnjimpakpkjaaD05
namespace Go.Proofs.Ythgnjimpakpkjaa
namespace A
def e37 (y : Arr) : Eff := retP2 (y.shape ≠ []) I64 SI (y.shape.getD 0 0) (y.shape.drop 1)
def s37 : Spec := sp1 AR e37
theorem wp37 (y : Arr) (H : Heap) :
    (wpF tb [] noA noA Try.f37 (e37 y) [.val AR y] H) = (
  (decide ((↑y.shape.length : Int) = (0 : Int)) = true → (1 : Int) = y.shape.getD (0 : Nat) (0 : Int) ∧ [] = List.drop (1 : Nat) y.shape ∧ True) ∧
  (decide ((↑y.shape.length : Int) = (0 : Int)) = false →
    idxRange (0 : Int) y.shape.length ∧
      ((0 : Int) ≤ (1 : Int) ∧ (1 : Int) ≤ (↑y.shape.length : Int) ∧ (↑y.shape.length : Int) ≤ (↑y.shape.length : Int)) ∧
        y.shape.getD (Int.toNat (0 : Int)) (0 : Int) = y.shape.getD (0 : Nat) (0 : Int) ∧ List.drop (Int.toNat (1 : Int)) y.shape = List.drop (1 : Nat) y.shape ∧ True)) := by kernel_rfl

def e71 (y : Arr) : Eff := ret .bool (!decide (F.aright y = 0))
def s71 : Spec := sp1 AR e71
theorem wp71 (y : Arr) (H : Heap) :
    (wpF tb [(50, s50)] noA noA Try.f71 (e71 y) [.val AR y] H) = (
  (!decide (F.aright y = (0 : Int))) = !decide (F.aright y = (0 : Int)) ∧ True) := by kernel_rfl

def e39 (l : List Arr) : Eff := ret .bool (!l.any fun y => !decide (F.aright y = 0))
def s39 : Spec := sp1 SA e39
theorem wp39 (l : List Arr) (H : Heap) :
    (wpF tb [(70, s70), (71, s71)] noA noA Try.f39 (e39 l) [.val SA l] H) = (
  (∀ (q0 : Arr), q0 ∈ l → True) ∧ ((!l.any fun (q0 : Arr) => !decide (F.aright q0 = (0 : Int))) = !l.any fun (q0 : Arr) => !decide (F.aright q0 = (0 : Int))) ∧ True) := by kernel_rfl

def e72 (n d : Int) : Eff := ret .bool (decide (n < 0) || decide (d ≤ n))
def s72 : Spec := fun xs H => match xs with
  | [.val (.int .i64) n, .ref 500000 0] => match H 500000 with
    | .live (.val (.int .i64) d) => some (e72 n d)
    | _ => none
  | _ => none
theorem wp72 (n d : Int) (H : Heap) :
    (wpA tb [] false [] noA noA (body Try.f72) (retQ tb Try.f72.results.toList (e72 n d) (knw [(500000, .live (.val I64 d))] H)) (entry [.val I64 n, .ref 500000 0] (knw [(500000, .live (.val I64 d))] H))) = (
  (bif decide (n < (0 : Int)) then true else decide (d ≤ n)) = (decide (n < (0 : Int)) || decide (d ≤ n)) ∧ True) := by kernel_rfl

def e41 (l : List Int) (d : Int) : Eff := ret .bool (F.within l d)
def s41 : Spec := sp2 SI I64 e41
theorem wp41 (l : List Int) (d : Int) (H : Heap) :
    (wpF tb [(45, s45), (72, s72)] noA noA Try.f41 (e41 l d) [.val SI l, .val I64 d] H) = (
  (∀ (q0 : Int), q0 ∈ l → True) ∧ (!l.any fun (q0 : Int) => decide (q0 < (0 : Int)) || decide (d ≤ q0)) = F.within l d ∧ True) := by kernel_rfl

def e43 (y : Arr) (s l : List Int) : Eff := retP2 ((∀ i ∈ l, 0 ≤ i ∧ i < (if y.kind = 3 then (y.items.length : Int) else y.nums.length)) ∧ (y.kind = 3 → F.gw y l ≤ 262144)) AR I64 (F.gather y s l) (0 : Int)
def s43 : Spec := sp3 AR SI SI e43
def la43 (y : Arr) (s l : List Int) : Nat → Option (AState → Ann)
  | 4 => some fun _ => { P := Nat, vars := fun i => [(19, .val I64 (i : Int)), (9, .val I64 (if y.kind = 3 then F.gw y (l.take i) else (0 : Int)))], objs := fun i => [(8, .st (.ofL [.val I64 y.kind, .own I64 s, .own I64 (F.gather y s (l.take i)).nums, .own AR (F.gather y s (l.take i)).items]))], inv := fun i => i ≤ l.length ∧ True, mea := fun i => l.length - i }
  | _ => none
theorem wp43 (y : Arr) (s l : List Int) (H : Heap) :
    (wpF tb [(35, s35), (74, s74), (75, s75)] (la43 y s l) noA Try.f43 (e43 y s l) [.val AR y, .val SI s, .val SI l] H) = (
  (∃ (q0 : Nat),
    (q0 ≤ l.length ∧ True) ∧
      (0 : Int) = (↑q0 : Int) ∧
        ((0 : Int) = if y.kind = (3 : Int) then F.gw y (List.take q0 l) else (0 : Int)) ∧
          y.kind = y.kind ∧ s = s ∧ [] = (F.gather y s (List.take q0 l)).nums ∧ [] = (F.gather y s (List.take q0 l)).items ∧ True) ∧
  ∀ (q0 : Nat),
    q0 ≤ l.length ∧ True →
      (decide ((↑q0 : Int) < (↑l.length : Int)) = true →
          idxRange (↑q0 : Int) l.length ∧
            ((!decide (y.kind = (3 : Int))) = true →
                idxRange (l.getD (↑q0 : Int).toNat (0 : Int)) y.nums.length ∧
                  ((F.gather y s (List.take q0 l)).nums ++ [y.nums.getD (l.getD (↑q0 : Int).toNat (0 : Int)).toNat (0 : Int)]).length < LIM ∧
                    inR IntKind.i64 ((↑q0 : Int) + (1 : Int)) ∧
                      ∃ (q4 : Nat),
                        (q4 ≤ l.length ∧ True) ∧
                          l.length - q4 < l.length - q0 ∧
                            (↑q0 : Int) + (1 : Int) = (↑q4 : Int) ∧
                              ((if y.kind = (3 : Int) then F.gw y (List.take q0 l) else (0 : Int)) = if y.kind = (3 : Int) then F.gw y (List.take q4 l) else (0 : Int)) ∧
                                y.kind = y.kind ∧
                                  s = s ∧
                                    (F.gather y s (List.take q0 l)).nums ++ [y.nums.getD (l.getD (↑q0 : Int).toNat (0 : Int)).toNat (0 : Int)] = (F.gather y s (List.take q4 l)).nums ∧
                                      (F.gather y s (List.take q0 l)).items = (F.gather y s (List.take q4 l)).items ∧ True) ∧
              ((!decide (y.kind = (3 : Int))) = false →
                idxRange (l.getD (↑q0 : Int).toNat (0 : Int)) y.items.length ∧
                  inR IntKind.i64 ((1 : Int) + F.aweight (y.items.getD (l.getD (↑q0 : Int).toNat (0 : Int)).toNat (Arr.mk (0 : Int) [] [] []))) ∧
                    inR IntKind.i64
                        ((if y.kind = (3 : Int) then F.gw y (List.take q0 l) else (0 : Int)) +
                          ((1 : Int) + F.aweight (y.items.getD (l.getD (↑q0 : Int).toNat (0 : Int)).toNat (Arr.mk (0 : Int) [] [] [])))) ∧
                      (decide
                              ((262144 : Int) <
                                (if y.kind = (3 : Int) then F.gw y (List.take q0 l) else (0 : Int)) +
                                  ((1 : Int) + F.aweight (y.items.getD (l.getD (↑q0 : Int).toNat (0 : Int)).toNat (Arr.mk (0 : Int) [] [] [])))) =
                            true →
                          Arr.mk (0 : Int) [] [] [] = F.gather y s l ∧ (21 : Int) = (0 : Int) ∧ True) ∧
                        (decide
                              ((262144 : Int) <
                                (if y.kind = (3 : Int) then F.gw y (List.take q0 l) else (0 : Int)) +
                                  ((1 : Int) + F.aweight (y.items.getD (l.getD (↑q0 : Int).toNat (0 : Int)).toNat (Arr.mk (0 : Int) [] [] [])))) =
                            false →
                          idxRange (l.getD (↑q0 : Int).toNat (0 : Int)) y.items.length ∧
                            ((F.gather y s (List.take q0 l)).items ++ [y.items.getD (l.getD (↑q0 : Int).toNat (0 : Int)).toNat (Arr.mk (0 : Int) [] [] [])]).length < LIM ∧
                              inR IntKind.i64 ((↑q0 : Int) + (1 : Int)) ∧
                                ∃ (q5 : Nat),
                                  (q5 ≤ l.length ∧ True) ∧
                                    l.length - q5 < l.length - q0 ∧
                                      (↑q0 : Int) + (1 : Int) = (↑q5 : Int) ∧
                                        ((if y.kind = (3 : Int) then F.gw y (List.take q0 l) else (0 : Int)) +
                                              ((1 : Int) + F.aweight (y.items.getD (l.getD (↑q0 : Int).toNat (0 : Int)).toNat (Arr.mk (0 : Int) [] [] []))) =
                                            if y.kind = (3 : Int) then F.gw y (List.take q5 l) else (0 : Int)) ∧
                                          y.kind = y.kind ∧
                                            s = s ∧
                                              (F.gather y s (List.take q0 l)).nums = (F.gather y s (List.take q5 l)).nums ∧
                                                (F.gather y s (List.take q0 l)).items ++ [y.items.getD (l.getD (↑q0 : Int).toNat (0 : Int)).toNat (Arr.mk (0 : Int) [] [] [])] =
                                                    (F.gather y s (List.take q5 l)).items ∧
                                                  True))) ∧
        (decide ((↑q0 : Int) < (↑l.length : Int)) = false → Arr.mk y.kind s (F.gather y s (List.take q0 l)).nums (F.gather y s (List.take q0 l)).items = F.gather y s l ∧ (0 : Int) = (0 : Int) ∧ True)) := by kernel_rfl

def fromPre (x y : Arr) : Prop := F.aright x = 0 ∧ F.aright y = 0 ∧ x.kind = 1 ∧ y.shape ≠ [] ∧ F.sright (x.shape ++ y.shape.drop 1) = true ∧ F.within x.nums (y.shape.getD 0 0) = true ∧ (y.kind = 3 → F.gw y (F.fromI (F.ssize (y.shape.drop 1)) x.nums) ≤ 262144) ∧ x.nums.length ≤ 65536
def e11 (x y : Arr) : Eff := retP2 (fromPre x y) AR I64 (F.gather y (x.shape ++ y.shape.drop 1) (F.fromI (F.ssize (y.shape.drop 1)) x.nums)) (0 : Int)
def s11 : Spec := sp2 AR AR e11
def la11 (x y : Arr) : Nat → Option (AState → Ann)
  | 14 => some (annT Nat (fun i => [(53, .val I64 (i : Int)), (10, .own I64 (F.fromI (F.ssize (y.shape.drop 1)) (x.nums.take i)))]) (fun i => i ≤ x.nums.length ∧ True) (fun i => x.nums.length - i))
  | 17 => some fun s => match s.T 53 with
    | .val (.int .i64) i => { P := Nat, vars := fun k => [(58, .val I64 (k : Int)), (10, .own I64 (F.fromI (F.ssize (y.shape.drop 1)) (x.nums.take (Int.toNat i)) ++ (List.range k).map fun (q : Nat) => x.nums.getD (Int.toNat i) 0 * F.ssize (y.shape.drop 1) + (q : Int)))], objs := fun _ => [], inv := fun k => (k : Int) ≤ F.ssize (y.shape.drop 1) ∧ True, mea := fun k => (F.ssize (y.shape.drop 1)).toNat - k }
    | _ => { P := Nat, vars := fun _ => [], objs := fun _ => [], inv := fun _ => False, mea := fun _ => 0 }
  | _ => none
theorem wp11 (x y : Arr) (H : Heap) :
    (wpF tb [(37, s37), (38, s38), (39, s39), (40, s40), (41, s41), (42, s42), (43, s43)] (la11 x y) noA Try.f11 (e11 x y) [.val AR x, .val AR y] H) = (
  y.shape ≠ [] ∧
  [x.shape, List.drop (1 : Nat) y.shape].flatten.length < (4294967296 : Nat) ∧
    ((!![x, y].any fun (q0 : Arr) => !decide (F.aright q0 = (0 : Int))) = true →
        Arr.mk (0 : Int) [] [] [] = F.gather y (x.shape ++ List.drop (1 : Nat) y.shape) (F.fromI (F.ssize (List.drop (1 : Nat) y.shape)) x.nums) ∧ (1 : Int) = (0 : Int) ∧ True) ∧
      ((!![x, y].any fun (q0 : Arr) => !decide (F.aright q0 = (0 : Int))) = false →
        ((!decide (x.kind = (1 : Int))) = true →
            Arr.mk (0 : Int) [] [] [] = F.gather y (x.shape ++ List.drop (1 : Nat) y.shape) (F.fromI (F.ssize (List.drop (1 : Nat) y.shape)) x.nums) ∧ (14 : Int) = (0 : Int) ∧ True) ∧
          ((!decide (x.kind = (1 : Int))) = false →
            ((!F.sright [x.shape, List.drop (1 : Nat) y.shape].flatten) = true →
                Arr.mk (0 : Int) [] [] [] = F.gather y (x.shape ++ List.drop (1 : Nat) y.shape) (F.fromI (F.ssize (List.drop (1 : Nat) y.shape)) x.nums) ∧ (21 : Int) = (0 : Int) ∧ True) ∧
              ((!F.sright [x.shape, List.drop (1 : Nat) y.shape].flatten) = false →
                ((!F.within x.nums (y.shape.getD (0 : Nat) (0 : Int))) = true →
                    Arr.mk (0 : Int) [] [] [] = F.gather y (x.shape ++ List.drop (1 : Nat) y.shape) (F.fromI (F.ssize (List.drop (1 : Nat) y.shape)) x.nums) ∧ (18 : Int) = (0 : Int) ∧ True) ∧
                  ((!F.within x.nums (y.shape.getD (0 : Nat) (0 : Int))) = false →
                    (∃ (q4 : Nat), (q4 ≤ x.nums.length ∧ True) ∧ (0 : Int) = (↑q4 : Int) ∧ [] = F.fromI (F.ssize (List.drop (1 : Nat) y.shape)) (List.take q4 x.nums) ∧ True) ∧
                      ∀ (q4 : Nat),
                        q4 ≤ x.nums.length ∧ True →
                          (decide ((↑q4 : Int) < (↑x.nums.length : Int)) = true →
                              idxRange (↑q4 : Int) x.nums.length ∧
                                (∃ (q7 : Nat),
                                    ((↑q7 : Int) ≤ F.ssize (List.drop (1 : Nat) y.shape) ∧ True) ∧
                                      (0 : Int) = (↑q7 : Int) ∧
                                        F.fromI (F.ssize (List.drop (1 : Nat) y.shape)) (List.take q4 x.nums) =
                                            F.fromI (F.ssize (List.drop (1 : Nat) y.shape)) (List.take (↑q4 : Int).toNat x.nums) ++
                                              List.map (fun (q8 : Nat) => x.nums.getD (↑q4 : Int).toNat (0 : Int) * F.ssize (List.drop (1 : Nat) y.shape) + (↑q8 : Int)) (List.range q7) ∧
                                          True) ∧
                                  ∀ (q7 : Nat),
                                    (↑q7 : Int) ≤ F.ssize (List.drop (1 : Nat) y.shape) ∧ True →
                                      (decide ((↑q7 : Int) < F.ssize (List.drop (1 : Nat) y.shape)) = true →
                                          inR IntKind.i64 (x.nums.getD (↑q4 : Int).toNat (0 : Int) * F.ssize (List.drop (1 : Nat) y.shape)) ∧
                                            inR IntKind.i64 (x.nums.getD (↑q4 : Int).toNat (0 : Int) * F.ssize (List.drop (1 : Nat) y.shape) + (↑q7 : Int)) ∧
                                              (F.fromI (F.ssize (List.drop (1 : Nat) y.shape)) (List.take (↑q4 : Int).toNat x.nums) ++
                                                        List.map (fun (q10 : Nat) => x.nums.getD (↑q4 : Int).toNat (0 : Int) * F.ssize (List.drop (1 : Nat) y.shape) + (↑q10 : Int)) (List.range q7) ++
                                                      [x.nums.getD (↑q4 : Int).toNat (0 : Int) * F.ssize (List.drop (1 : Nat) y.shape) + (↑q7 : Int)]).length <
                                                  LIM ∧
                                                inR IntKind.i64 ((↑q7 : Int) + (1 : Int)) ∧
                                                  ∃ (q10 : Nat),
                                                    ((↑q10 : Int) ≤ F.ssize (List.drop (1 : Nat) y.shape) ∧ True) ∧
                                                      (F.ssize (List.drop (1 : Nat) y.shape)).toNat - q10 < (F.ssize (List.drop (1 : Nat) y.shape)).toNat - q7 ∧
                                                        (↑q7 : Int) + (1 : Int) = (↑q10 : Int) ∧
                                                          F.fromI (F.ssize (List.drop (1 : Nat) y.shape)) (List.take (↑q4 : Int).toNat x.nums) ++
                                                                  List.map (fun (q11 : Nat) => x.nums.getD (↑q4 : Int).toNat (0 : Int) * F.ssize (List.drop (1 : Nat) y.shape) + (↑q11 : Int))
                                                                    (List.range q7) ++
                                                                [x.nums.getD (↑q4 : Int).toNat (0 : Int) * F.ssize (List.drop (1 : Nat) y.shape) + (↑q7 : Int)] =
                                                              F.fromI (F.ssize (List.drop (1 : Nat) y.shape)) (List.take (↑q4 : Int).toNat x.nums) ++
                                                                List.map (fun (q11 : Nat) => x.nums.getD (↑q4 : Int).toNat (0 : Int) * F.ssize (List.drop (1 : Nat) y.shape) + (↑q11 : Int))
                                                                  (List.range q10) ∧
                                                            True) ∧
                                        (decide ((↑q7 : Int) < F.ssize (List.drop (1 : Nat) y.shape)) = false →
                                          inR IntKind.i64 ((↑q4 : Int) + (1 : Int)) ∧
                                            ∃ (q10 : Nat),
                                              (q10 ≤ x.nums.length ∧ True) ∧
                                                x.nums.length - q10 < x.nums.length - q4 ∧
                                                  (↑q4 : Int) + (1 : Int) = (↑q10 : Int) ∧
                                                    F.fromI (F.ssize (List.drop (1 : Nat) y.shape)) (List.take (↑q4 : Int).toNat x.nums) ++
                                                          List.map (fun (q11 : Nat) => x.nums.getD (↑q4 : Int).toNat (0 : Int) * F.ssize (List.drop (1 : Nat) y.shape) + (↑q11 : Int)) (List.range q7) =
                                                        F.fromI (F.ssize (List.drop (1 : Nat) y.shape)) (List.take q10 x.nums) ∧
                                                      True)) ∧
                            (decide ((↑q4 : Int) < (↑x.nums.length : Int)) = false →
                              ((∀ (q7 : Int),
                                    q7 ∈ F.fromI (F.ssize (List.drop (1 : Nat) y.shape)) (List.take q4 x.nums) →
                                      (0 : Int) ≤ q7 ∧ q7 < if y.kind = (3 : Int) then (↑y.items.length : Int) else (↑y.nums.length : Int)) ∧
                                  (y.kind = (3 : Int) → F.gw y (F.fromI (F.ssize (List.drop (1 : Nat) y.shape)) (List.take q4 x.nums)) ≤ (262144 : Int))) ∧
                                F.gather y [x.shape, List.drop (1 : Nat) y.shape].flatten (F.fromI (F.ssize (List.drop (1 : Nat) y.shape)) (List.take q4 x.nums)) =
                                    F.gather y (x.shape ++ List.drop (1 : Nat) y.shape) (F.fromI (F.ssize (List.drop (1 : Nat) y.shape)) x.nums) ∧
                                  (0 : Int) = (0 : Int) ∧ True)))))) := by kernel_rfl

def e44 (y : Arr) : Eff := ret .bool (decide (F.aright y = 0))
def s44 : Spec := sp1 AR e44
theorem wp44 (y : Arr) (H : Heap) :
    (wpF tb [(50, s50)] noA noA Try.f44 (e44 y) [.val AR y] H) = (
  decide (F.aright y = (0 : Int)) = decide (F.aright y = (0 : Int)) ∧ True) := by kernel_rfl

theorem wp46 (n : Int) (H : Heap) :
    (wpF tb [] noA noA Try.f46 (e108 n) [.val I64 n] H) = (
  decide (n < (0 : Int)) = decide (n < (0 : Int)) ∧ True) := by kernel_rfl

def e12 (y : Arr) : Eff := retP2 (F.aright y = 0 ∧ y.kind = 1 ∧ y.shape.length ≤ 1 ∧ F.hneg y.nums = false ∧ F.sright y.nums = true) AR I64 (F.iota y) (0 : Int)
def s12 : Spec := sp1 AR e12
def la12 (y : Arr) : Nat → Option (AState → Ann)
  | 13 => some fun _ => { P := Nat, vars := fun i => [(40, .val I64 (i : Int))], objs := fun i => [(4, .st (.ofL [.val I64 (1 : Int), .own I64 y.nums, .own I64 ((List.range i).map fun (k : Nat) => (k : Int)), .nils]))], inv := fun i => (i : Int) ≤ F.ssize y.nums ∧ True, mea := fun i => (F.ssize y.nums).toNat - i }
  | _ => none
theorem wp12 (y : Arr) (H : Heap) :
    (wpF tb [(44, s44), (45, s45), (46, s108), (40, s40), (35, s35), (42, s42)] (la12 y) noA Try.f12 (e12 y) [.val AR y] H) = (
  ((!decide (F.aright y = (0 : Int))) = true → Arr.mk (0 : Int) [] [] [] = F.iota y ∧ (1 : Int) = (0 : Int) ∧ True) ∧
  ((!decide (F.aright y = (0 : Int))) = false →
    ((!decide (y.kind = (1 : Int))) = true → Arr.mk (0 : Int) [] [] [] = F.iota y ∧ (14 : Int) = (0 : Int) ∧ True) ∧
      ((!decide (y.kind = (1 : Int))) = false →
        (decide ((1 : Int) < (↑y.shape.length : Int)) = true → Arr.mk (0 : Int) [] [] [] = F.iota y ∧ (15 : Int) = (0 : Int) ∧ True) ∧
          (decide ((1 : Int) < (↑y.shape.length : Int)) = false →
            (∀ (q3 : Int), q3 ∈ y.nums → True) ∧
              ((y.nums.any fun (q3 : Int) => decide (q3 < (0 : Int))) = true → Arr.mk (0 : Int) [] [] [] = F.iota y ∧ (17 : Int) = (0 : Int) ∧ True) ∧
                ((y.nums.any fun (q3 : Int) => decide (q3 < (0 : Int))) = false →
                  ((!F.sright y.nums) = true → Arr.mk (0 : Int) [] [] [] = F.iota y ∧ (21 : Int) = (0 : Int) ∧ True) ∧
                    ((!F.sright y.nums) = false →
                      (∃ (q5 : Nat),
                          ((↑q5 : Int) ≤ F.ssize y.nums ∧ True) ∧
                            (0 : Int) = (↑q5 : Int) ∧ (1 : Int) = (1 : Int) ∧ y.nums = y.nums ∧ [] = List.map (fun (q6 : Nat) => (↑q6 : Int)) (List.range q5) ∧ True) ∧
                        ∀ (q5 : Nat),
                          (↑q5 : Int) ≤ F.ssize y.nums ∧ True →
                            (decide ((↑q5 : Int) < F.ssize y.nums) = true →
                                (List.map (fun (q8 : Nat) => (↑q8 : Int)) (List.range q5) ++ [(↑q5 : Int)]).length < LIM ∧
                                  inR IntKind.i64 ((↑q5 : Int) + (1 : Int)) ∧
                                    ∃ (q8 : Nat),
                                      ((↑q8 : Int) ≤ F.ssize y.nums ∧ True) ∧
                                        (F.ssize y.nums).toNat - q8 < (F.ssize y.nums).toNat - q5 ∧
                                          (↑q5 : Int) + (1 : Int) = (↑q8 : Int) ∧
                                            (1 : Int) = (1 : Int) ∧
                                              y.nums = y.nums ∧
                                                List.map (fun (q9 : Nat) => (↑q9 : Int)) (List.range q5) ++ [(↑q5 : Int)] = List.map (fun (q9 : Nat) => (↑q9 : Int)) (List.range q8) ∧ True) ∧
                              (decide ((↑q5 : Int) < F.ssize y.nums) = false →
                                Arr.mk (1 : Int) y.nums (List.map (fun (q8 : Nat) => (↑q8 : Int)) (List.range q5)) [] = F.iota y ∧ (0 : Int) = (0 : Int) ∧ True))))))) := by kernel_rfl

def e13 (n : Int) : Eff := ret AR (Arr.mk 1 [] [n] [])
def s13 : Spec := sp1 I64 e13
theorem wp13 (n : Int) (H : Heap) :
    (wpF tb [] noA noA Try.f13 (e13 n) [.val I64 n] H) = (
  Arr.mk (1 : Int) [] [n] [] = Arr.mk (1 : Int) [] [n] [] ∧ True) := by kernel_rfl

def e14 (y : Arr) : Eff := ret I64 (if y.shape = [] then (1 : Int) else y.shape.getD 0 0)
def s14 : Spec := sp1 AR e14
theorem wp14 (y : Arr) (H : Heap) :
    (wpF tb [] noA noA Try.f14 (e14 y) [.val AR y] H) = (
  (decide ((↑y.shape.length : Int) = (0 : Int)) = true → ((1 : Int) = if y.shape = [] then (1 : Int) else y.shape.getD (0 : Nat) (0 : Int)) ∧ True) ∧
  (decide ((↑y.shape.length : Int) = (0 : Int)) = false →
    idxRange (0 : Int) y.shape.length ∧ (y.shape.getD (Int.toNat (0 : Int)) (0 : Int) = if y.shape = [] then (1 : Int) else y.shape.getD (0 : Nat) (0 : Int)) ∧ True)) := by kernel_rfl

def e23 (l : List Int) : Eff := ret AR (Arr.mk 1 [(l.length : Int)] l [])
def s23 : Spec := sp1 SI e23
theorem wp23 (l : List Int) (H : Heap) :
    (wpF tb [] noA noA Try.f23 (e23 l) [.val SI l] H) = (
  Arr.mk (1 : Int) [(↑l.length : Int)] l [] = Arr.mk (1 : Int) [(↑l.length : Int)] l [] ∧ True) := by kernel_rfl

def eT : Eff := ret .bool true
def s8 : Spec := fun xs _ => match xs with
  | [] => some eT
  | _ => none
theorem wp8 (H : Heap) :
    (wpF tb [(23, s23), (9, s9), (11, s11), (15, s15)] noA noA Try.f8 eT [] H) = (
  (F.aright (Arr.mk (1 : Int) [(↑[(30 : Int), (10 : Int), (20 : Int)].length : Int)] [(30 : Int), (10 : Int), (20 : Int)] []) = (0 : Int) ∧
    (Arr.mk (1 : Int) [(↑[(30 : Int), (10 : Int), (20 : Int)].length : Int)] [(30 : Int), (10 : Int), (20 : Int)] []).shape ≠ []) ∧
  (F.aright (F.up (Arr.mk (1 : Int) [(↑[(30 : Int), (10 : Int), (20 : Int)].length : Int)] [(30 : Int), (10 : Int), (20 : Int)] [])) = (0 : Int) ∧
      F.aright (Arr.mk (1 : Int) [(↑[(30 : Int), (10 : Int), (20 : Int)].length : Int)] [(30 : Int), (10 : Int), (20 : Int)] []) = (0 : Int) ∧
        (F.up (Arr.mk (1 : Int) [(↑[(30 : Int), (10 : Int), (20 : Int)].length : Int)] [(30 : Int), (10 : Int), (20 : Int)] [])).kind = (1 : Int) ∧
          (Arr.mk (1 : Int) [(↑[(30 : Int), (10 : Int), (20 : Int)].length : Int)] [(30 : Int), (10 : Int), (20 : Int)] []).shape ≠ [] ∧
            F.sright
                  ((F.up (Arr.mk (1 : Int) [(↑[(30 : Int), (10 : Int), (20 : Int)].length : Int)] [(30 : Int), (10 : Int), (20 : Int)] [])).shape ++
                    List.drop (1 : Nat) (Arr.mk (1 : Int) [(↑[(30 : Int), (10 : Int), (20 : Int)].length : Int)] [(30 : Int), (10 : Int), (20 : Int)] []).shape) =
                true ∧
              F.within (F.up (Arr.mk (1 : Int) [(↑[(30 : Int), (10 : Int), (20 : Int)].length : Int)] [(30 : Int), (10 : Int), (20 : Int)] [])).nums
                    ((Arr.mk (1 : Int) [(↑[(30 : Int), (10 : Int), (20 : Int)].length : Int)] [(30 : Int), (10 : Int), (20 : Int)] []).shape.getD (0 : Nat) (0 : Int)) =
                  true ∧
                ((Arr.mk (1 : Int) [(↑[(30 : Int), (10 : Int), (20 : Int)].length : Int)] [(30 : Int), (10 : Int), (20 : Int)] []).kind = (3 : Int) →
                    F.gw (Arr.mk (1 : Int) [(↑[(30 : Int), (10 : Int), (20 : Int)].length : Int)] [(30 : Int), (10 : Int), (20 : Int)] [])
                        (F.fromI (F.ssize (List.drop (1 : Nat) (Arr.mk (1 : Int) [(↑[(30 : Int), (10 : Int), (20 : Int)].length : Int)] [(30 : Int), (10 : Int), (20 : Int)] []).shape))
                          (F.up (Arr.mk (1 : Int) [(↑[(30 : Int), (10 : Int), (20 : Int)].length : Int)] [(30 : Int), (10 : Int), (20 : Int)] [])).nums) ≤
                      (262144 : Int)) ∧
                  (F.up (Arr.mk (1 : Int) [(↑[(30 : Int), (10 : Int), (20 : Int)].length : Int)] [(30 : Int), (10 : Int), (20 : Int)] [])).nums.length ≤ (65536 : Nat)) ∧
    inR IntKind.i64 ((0 : Int) + (0 : Int)) ∧
      F.same
            (F.gather (Arr.mk (1 : Int) [(↑[(30 : Int), (10 : Int), (20 : Int)].length : Int)] [(30 : Int), (10 : Int), (20 : Int)] [])
              ((F.up (Arr.mk (1 : Int) [(↑[(30 : Int), (10 : Int), (20 : Int)].length : Int)] [(30 : Int), (10 : Int), (20 : Int)] [])).shape ++
                List.drop (1 : Nat) (Arr.mk (1 : Int) [(↑[(30 : Int), (10 : Int), (20 : Int)].length : Int)] [(30 : Int), (10 : Int), (20 : Int)] []).shape)
              (F.fromI (F.ssize (List.drop (1 : Nat) (Arr.mk (1 : Int) [(↑[(30 : Int), (10 : Int), (20 : Int)].length : Int)] [(30 : Int), (10 : Int), (20 : Int)] []).shape))
                (F.up (Arr.mk (1 : Int) [(↑[(30 : Int), (10 : Int), (20 : Int)].length : Int)] [(30 : Int), (10 : Int), (20 : Int)] [])).nums))
            (Arr.mk (1 : Int) [(↑[(10 : Int), (20 : Int), (30 : Int)].length : Int)] [(10 : Int), (20 : Int), (30 : Int)] []) =
          true ∧
        True) := by kernel_rfl

def e3 (y : Arr) : Eff := eT
def s3 : Spec := sp1 AR e3
theorem wp3 (y : Arr) (H : Heap) :
    (wpF tb [(7, s7), (8, s8), (9, s9), (10, s10), (11, s11), (12, s12), (13, s13), (14, s14), (15, s15)] noA noA Try.f3 (e3 y) [.val AR y] H) = (
  ((bif !F.few y (100 : Int) then true else decide ((↑y.shape.length : Int) = (0 : Int))) = true → true = true ∧ True) ∧
  ((bif !F.few y (100 : Int) then true else decide ((↑y.shape.length : Int) = (0 : Int))) = false →
    (F.aright y = (0 : Int) ∧ y.shape ≠ []) ∧
      (F.aright y = (0 : Int) ∧ y.shape ≠ [] ∧ (F.sorted y).nums.length < (4294967296 : Nat) ∧ (F.sorted y).items.length < (4294967296 : Nat)) ∧
        (F.aright (F.up y) = (0 : Int) ∧
            F.aright y = (0 : Int) ∧
              (F.up y).kind = (1 : Int) ∧
                y.shape ≠ [] ∧
                  F.sright ((F.up y).shape ++ List.drop (1 : Nat) y.shape) = true ∧
                    F.within (F.up y).nums (y.shape.getD (0 : Nat) (0 : Int)) = true ∧
                      (y.kind = (3 : Int) → F.gw y (F.fromI (F.ssize (List.drop (1 : Nat) y.shape)) (F.up y).nums) ≤ (262144 : Int)) ∧ (F.up y).nums.length ≤ (65536 : Nat)) ∧
          (F.aright (F.sorted y) = (0 : Int) ∧ (F.sorted y).shape ≠ []) ∧
            (F.aright (Arr.mk (1 : Int) [] [if y.shape = [] then (1 : Int) else y.shape.getD (0 : Nat) (0 : Int)] []) = (0 : Int) ∧
                (Arr.mk (1 : Int) [] [if y.shape = [] then (1 : Int) else y.shape.getD (0 : Nat) (0 : Int)] []).kind = (1 : Int) ∧
                  (Arr.mk (1 : Int) [] [if y.shape = [] then (1 : Int) else y.shape.getD (0 : Nat) (0 : Int)] []).shape.length ≤ (1 : Nat) ∧
                    F.hneg (Arr.mk (1 : Int) [] [if y.shape = [] then (1 : Int) else y.shape.getD (0 : Nat) (0 : Int)] []).nums = false ∧
                      F.sright (Arr.mk (1 : Int) [] [if y.shape = [] then (1 : Int) else y.shape.getD (0 : Nat) (0 : Int)] []).nums = true) ∧
              inR IntKind.i64 ((0 : Int) + (0 : Int)) ∧
                inR IntKind.i64 ((0 : Int) + (0 : Int) + (0 : Int)) ∧
                  inR IntKind.i64 ((0 : Int) + (0 : Int) + (0 : Int) + (0 : Int)) ∧
                    inR IntKind.i64 ((0 : Int) + (0 : Int) + (0 : Int) + (0 : Int) + (0 : Int)) ∧
                      (bif
                              bif F.same (F.gather y ((F.up y).shape ++ List.drop (1 : Nat) y.shape) (F.fromI (F.ssize (List.drop (1 : Nat) y.shape)) (F.up y).nums)) (F.sorted y) then
                                F.same (F.up (F.sorted y)) (F.iota (Arr.mk (1 : Int) [] [if y.shape = [] then (1 : Int) else y.shape.getD (0 : Nat) (0 : Int)] []))
                              else false then
                            true
                          else false) =
                          true ∧
                        True)) := by kernel_rfl

end A
end Go.Proofs.Ythgnjimpakpkjaa
namespace Go.Proofs.Ythgnjimpakpkjaa
namespace A
namespace F
def pr : List Int → Int
  | [] => 1
  | d :: s => d * pr s
theorem pr_append : ∀ (s t : List Int), pr (s ++ t) = pr s * pr t
  | [], t => by simp [pr]
  | d :: s, t => by simp [pr, pr_append s t, Int.mul_assoc]
theorem pr_split (s : List Int) (k : Nat) : pr (s.take k) * pr (s.drop k) = pr s := by
  rw [← pr_append, List.take_append_drop]
theorem pr_hz : ∀ {s : List Int}, hz s = true → pr s = 0
  | [], h => by simp [hz] at h
  | d :: s, h => by
    rw [hz_cons] at h
    by_cases h0 : d = 0
    · simp [pr, h0]
    · simp [h0] at h
      simp [pr, pr_hz h]
theorem sprod1_pr : ∀ (s : List Int) (p : Int), sprod1 p s = p * pr s
  | [], p => by simp [sprod1, pr]
  | d :: s, p => by rw [sprod1_cons, sprod1_pr s, pr, Int.mul_assoc]
theorem sprod_pr (s : List Int) : sprod s = pr s := by
  unfold sprod
  split
  · rename_i h; exact (pr_hz h).symm
  · rw [sprod1_pr]; omega
theorem ssize_pr {s : List Int} (h : sright s = true) : ssize s = pr s := by rw [ssize, if_pos h, sprod_pr]
def nonneg (s : List Int) : Prop := ∀ d, d ∈ s → 0 ≤ d
theorem hneg_nn {s : List Int} : hneg s = false ↔ nonneg s := by
  unfold hneg nonneg
  rw [List.any_eq_false]
  simp only [decide_eq_true_eq, Int.not_lt]
theorem pr_nn : ∀ {s : List Int}, nonneg s → 0 ≤ pr s
  | [], _ => by simp [pr]
  | d :: s, h => Int.mul_nonneg (h d (by simp)) (pr_nn fun x hx => h x (by simp [hx]))
theorem sright1_nn : ∀ {s : List Int} {p : Int}, sright1 p s = true → nonneg s ∧ ∀ d, d ∈ s → d ≤ 65536
  | [], p, _ => ⟨fun x hx => (by cases hx), fun x hx => (by cases hx)⟩
  | d :: s, p, h => by
    rw [sright1_cons] at h
    split at h
    · cases h
    rename_i hd
    have key : nonneg s ∧ ∀ d, d ∈ s → d ≤ 65536 := by
      split at h
      · exact sright1_nn h
      · split at h
        · cases h
        · exact sright1_nn h
    refine ⟨fun x hx => ?_, fun x hx => ?_⟩ <;> rcases List.mem_cons.1 hx with rfl | hx
    · omega
    · exact key.1 x hx
    · omega
    · exact key.2 x hx
theorem sright_nn {s : List Int} (h : sright s = true) : nonneg s := (sright1_nn (sright_iff.1 h).2).1
theorem sright1_pr : ∀ {s : List Int} {p : Int}, 1 ≤ p → p ≤ 65536 → sright1 p s = true → p * pr s ≤ 65536
  | [], p, h1, h2, _ => by simp [pr]; omega
  | d :: s, p, h1, h2, h => by
    rw [sright1_cons] at h
    split at h
    · cases h
    rename_i hd
    split at h
    · rename_i h0; simp [pr, h0]
    · rename_i h0
      split at h
      · cases h
      · rename_i hp
        have hq1 : 1 ≤ p * d := by have := Int.mul_le_mul h1 (show 1 ≤ d by omega) (by omega) (by omega); omega
        have := sright1_pr hq1 (by omega) h
        rw [pr, ← Int.mul_assoc]; exact this
theorem sright_pr {s : List Int} (h : sright s = true) : 0 ≤ pr s ∧ pr s ≤ 65536 := by
  refine ⟨pr_nn (sright_nn h), ?_⟩
  have := sright1_pr (p := 1) (by decide) (by decide) (sright_iff.1 h).2
  omega
theorem ssize_bd {s : List Int} (h : sright s = true) : 0 ≤ ssize s ∧ ssize s ≤ 65536 := by rw [ssize_pr h]; exact sright_pr h
theorem ssize_split {s : List Int} (h : sright s = true) (k : Nat) : ssize (s.take k) * ssize (s.drop k) = ssize s := by
  rw [ssize_pr (sright_take k h), ssize_pr (sright_drop k h), ssize_pr h, pr_split]
/- validity -/
theorem visitL_none : ∀ {l : List Arr} {d w : Int} {q : Int × Int}, visitL d w l = some q → ∀ x, x ∈ l → aright x = 0
  | [], _, _, _, _, x, hx => (by cases hx)
  | y :: l, d, w, q, h, x, hx => by
    rw [visitL_cons] at h
    split at h
    · cases h
    · rename_i h0
      rcases List.mem_cons.1 hx with rfl | hx
      · simpa [aright] using h0
      · exact visitL_none h x hx
structure OK (y : Arr) : Prop where
  k : y.kind = 1 ∨ y.kind = 2 ∨ y.kind = 3
  s : sright y.shape = true
  n : rsize y = ssize y.shape
  z : if y.kind = 3 then y.nums = [] else y.items = []
  b : badL y.kind y.nums = false
  i : ∀ x, x ∈ y.items → aright x = 0
  v : ∃ q : Int × Int, visitL 0 ((y.nums.length : Int) + (y.items.length : Int)) y.items = some q ∧ q.1 ≤ 16 ∧ q.2 ≤ 262144
theorem form_zero {y : Arr} (h : form y = 0) : (y.kind = 1 ∨ y.kind = 2 ∨ y.kind = 3) ∧ sright y.shape = true ∧ rsize y = ssize y.shape ∧ (if y.kind = 3 then y.nums = [] else y.items = []) := by
  unfold form at h
  split at h
  · cases h
  rename_i hk
  split at h
  · cases h
  rename_i h8
  split at h
  · cases h
  rename_i hn
  split at h
  · cases h
  rename_i hs
  have h4 : rsize y = ssize y.shape ∧ (if y.kind = 3 then (y.nums.length : Int) else y.items.length) = 0 := by
    refine Decidable.byContradiction fun hc => ?_
    rw [if_pos (by grind)] at h
    cases h
  refine ⟨Decidable.not_not.1 hk, by simpa using hs, h4.1, ?_⟩
  have := h4.2
  split
  · rename_i h3; rw [if_pos h3] at this; exact List.length_eq_zero_iff.1 (by omega)
  · rename_i h3; rw [if_neg h3] at this; exact List.length_eq_zero_iff.1 (by omega)
theorem aright_form {y : Arr} (h : aright y = 0) : form y = 0 := by
  unfold aright at h
  rw [visit_eq] at h
  by_cases hf : form y = 0
  · exact hf
  · rw [if_pos hf] at h; exact absurd h hf
theorem aright_ok {y : Arr} (h : aright y = 0) : OK y := by
  have hf := aright_form h
  obtain ⟨a1, a2, a3, a4⟩ := form_zero hf
  unfold aright at h
  rw [visit_eq, if_neg (by simpa using hf)] at h
  split at h
  · cases h
  rename_i hb
  split at h
  · cases h
  rename_i d w hv
  split at h
  · cases h
  rename_i hd
  exact ⟨a1, a2, a3, a4, by simpa using hb, visitL_none hv, (d, w), hv, by simp only; omega, by simp only; omega⟩
theorem ok_aright {y : Arr} (h : OK y) : aright y = 0 := by
  obtain ⟨⟨d, w⟩, hv, h1, h2⟩ := h.v
  simp only at h1 h2
  have hf : form y = 0 := by
    unfold form
    rw [if_neg (by have := h.k; grind), if_neg (by have := sright_len h.s; omega), if_neg (by rw [hneg_nn.2 (sright_nn h.s)]; simp), if_neg (by rw [h.s]; simp), if_neg]
    simp only [not_or, Decidable.not_not, ne_eq]
    refine ⟨h.n, ?_⟩
    have := h.z
    split
    · rename_i h3; rw [if_pos h3] at this; simp [this]
    · rename_i h3; rw [if_neg h3] at this; simp [this]
  unfold aright
  rw [visit_eq, if_neg (by simpa using hf), if_neg (by rw [h.b]; simp), hv]
  simp only
  rw [if_neg (by omega)]
theorem aright_len {y : Arr} (h : aright y = 0) : y.shape.length ≤ 8 := sright_len (aright_ok h).s
/-- the number of elements -/
theorem OK.len {y : Arr} (h : OK y) : (if y.kind = 3 then (y.items.length : Int) else y.nums.length) = pr y.shape := by
  have h1 := h.n
  rw [ssize_pr h.s] at h1
  rw [← h1]
  unfold rsize
  rcases h.k with hk | hk | hk <;> simp [hk]
end F
end A
end Go.Proofs.Ythgnjimpakpkjaa
namespace Go.Proofs.Ythgnjimpakpkjaa
namespace A
theorem sat97 : Sat Try.prog 97 s97 := sat2 fine [] Sat.none Try.func97 (by kernel_rfl) fun (k r : Int) H hpre _ _ => ⟨noA, noA, by
  refine (wp97 k r H).mpr ?_
  have hp : -100 ≤ k ∧ k ≤ 100 ∧ 0 ≤ r ∧ r ≤ 100 := hpre _ (by simp [e97, retP])
  simp only [decide_eq_true_eq, decide_eq_false_iff_not, and_true, inR64, F.rank]
  refine ⟨fun h => ⟨by omega, by omega, by rw [if_pos h]⟩, fun h => by rw [if_neg h]⟩⟩
theorem sat98 : Sat Try.prog 98 s98 := sat4 fine [(35, s35), (75, s75)] (sat35.app (sat75.app Sat.none)) Try.func98 (by kernel_rfl) fun (a : Arr) (i n : Int) (s : List Int) H hpre hwf _ _ _ => ⟨noA, noA, by
  refine (wp98 a i n s H).mpr ?_
  have hp : 0 ≤ i ∧ 0 ≤ n ∧ i + n ≤ (if a.kind = 3 then (a.items.length : Int) else a.nums.length) := hpre _ (by simp [e98, retP])
  obtain ⟨_, _, w2, w3⟩ := WF_arr hwf
  have l2 := WF_lenS w2
  have l3 := WF_lenA w3
  simp only [decide_eq_true_eq, decide_eq_false_iff_not, and_true, inR64, F.part]
  have hb : i + n < 4294967296 := by have := hp.2.2; split at this <;> omega
  refine ⟨by omega, fun h => ?_, fun h => ?_⟩
  · rw [if_pos h] at hp; exact ⟨⟨hp.1, by omega, trivial, hp.2.2⟩, by rw [if_pos h]⟩
  · rw [if_neg h] at hp; exact ⟨⟨hp.1, by omega, trivial, hp.2.2⟩, by rw [if_neg h]⟩⟩
theorem F.rank_bd {k r : Int} (h : 0 ≤ r) : 0 ≤ F.rank k r ∧ F.rank k r ≤ r := by
  unfold F.rank
  simp only
  split <;> omega
theorem F.cells_len {a : Arr} {k : Int} (h : F.aright a = 0) : (F.cells a k).length = (F.ssize (a.shape.take (a.shape.length - F.rank k a.shape.length).toNat)).toNat := by
  unfold F.cells
  rw [if_neg (by simp [h])]
  simp
theorem F.cells_get {a : Arr} {k : Int} (h : F.aright a = 0) {i : Nat} (d : Arr) (hi : i < (F.cells a k).length) : (F.cells a k).getD i d = F.part a ((i : Int) * F.ssize (a.shape.drop (a.shape.length - F.rank k a.shape.length).toNat)) (F.ssize (a.shape.drop (a.shape.length - F.rank k a.shape.length).toNat)) (a.shape.drop (a.shape.length - F.rank k a.shape.length).toNat) := by
  rw [F.cells_len h] at hi
  unfold F.cells
  rw [if_neg (by simp [h])]
  simp only [List.getD_eq_getElem?_getD, List.getElem?_map, List.getElem?_range hi, Option.map_some, Option.getD_some]
theorem sat67 : Sat Try.prog 67 s67 := sat2 fine [(50, s50), (97, s97), (42, s42), (98, s98)] (sat50.app (sat97.app (sat42.app (sat98.app Sat.none)))) Try.func67 (by kernel_rfl) fun (a : Arr) (k : Int) H hpre hwf _ => ⟨la67 a k, noA, by
  refine (wp67 a k H).mpr ?_
  have hp : -100 ≤ k ∧ k ≤ 100 := hpre _ (by simp [e67, retPO])
  refine ⟨fun h => ?_, fun h => ?_⟩
  · unfold F.cells
    rw [if_pos (by simpa using h)]; simp
  have h0 : F.aright a = 0 := by simpa using h
  have hk := F.aright_ok h0
  have h8 := F.sright_len hk.s
  have hr := F.rank_bd (k := k) (r := a.shape.length) (by omega)
  have hlen := F.cells_len (k := k) h0
  have hget := fun (i : Nat) (hi : i < (F.cells a k).length) => F.cells_get (k := k) h0 (Arr.mk 0 [] [] []) hi
  have hL := hk.len
  rw [← F.ssize_pr hk.s] at hL
  have hd1 := F.ssize_bd (F.sright_take (a.shape.length - F.rank k a.shape.length).toNat hk.s)
  have hd2 := F.ssize_bd (F.sright_drop (a.shape.length - F.rank k a.shape.length).toNat hk.s)
  have hsp := F.ssize_split hk.s (a.shape.length - F.rank k a.shape.length).toNat
  rw [hL, ← hsp]
  generalize F.ssize (a.shape.take (a.shape.length - F.rank k a.shape.length).toNat) = A1 at *
  generalize F.ssize (a.shape.drop (a.shape.length - F.rank k a.shape.length).toNat) = A2 at *
  generalize a.shape.drop (a.shape.length - F.rank k a.shape.length).toNat = s2 at *
  generalize F.cells a k = C at *
  have hL' : (LIM : Int) = 4294967296 := rfl
  simp only [and_true, inR64]
  refine ⟨by omega, by omega, by omega, by omega, by omega, ⟨0, Nat.zero_le _, rfl, rfl⟩, fun i hi => ⟨fun hlt => ?_, fun hlt => ?_⟩⟩
  · have hlt : (i : Int) < A1 := by simpa using hlt
    have hiC : i < C.length := by omega
    have m1 : (i : Int) * A2 ≤ 65536 * 65536 := Int.mul_le_mul (by omega) hd2.2 hd2.1 (by omega)
    have m0 : 0 ≤ (i : Int) * A2 := Int.mul_nonneg (by omega) hd2.1
    have m2 : (i : Int) * A2 + A2 ≤ A1 * A2 := by
      have := Int.mul_le_mul_of_nonneg_right (show (i : Int) + 1 ≤ A1 by omega) hd2.1
      rw [Int.add_mul, Int.one_mul] at this; exact this
    rw [← hget i hiC]
    have hLn : LIM = 4294967296 := rfl
    refine ⟨by omega, by omega, ⟨m0, hd2.1, m2⟩, by simp; omega, by omega, i + 1, by omega, by omega, by simp, (take_snoc' _ hiC).symm⟩
  · have hlt : A1 ≤ (i : Int) := by simpa using hlt
    exact List.take_of_length_le (by omega)⟩
theorem sat99 : Sat Try.prog 99 s99 := sat1 fine [] Sat.none Try.func99 (by kernel_rfl) fun (l : List Int) H _ hwf => ⟨la99 l, noA, by
  refine (wp99 l H).mpr ?_
  have hlen := WF_lenS hwf
  refine ⟨⟨0, ⟨Nat.zero_le _, rfl⟩, rfl, trivial⟩, ?_⟩
  rintro i ⟨h1, h2⟩
  simp only [and_true, idx_iff, inR64, toNat_cast]
  refine ⟨fun hi => ?_, fun hi => ?_⟩
  · have hi : i < l.length := by simpa using hi
    rw [drop_getD 0 hi, F.orL] at h2
    refine ⟨by omega, fun hd => by rw [h2, if_pos (by simpa using hd)], fun hd => ⟨by omega, i + 1, ⟨by omega, by rw [h2, if_neg (by simpa using hd)]⟩, by omega, by simp⟩⟩
  · rw [drop_all (by simpa using hi)] at h2
    rw [h2]; rfl⟩
theorem sat115 : Sat Try.prog 115 s115 := sat1 fine [] Sat.none Try.func115 (by kernel_rfl) fun (x : Int) H _ _ => ⟨noA, noA, (wp115 x H).mpr (by simp)⟩
theorem sat116 : Sat Try.prog 116 s115 := sat1 fine [] Sat.none Try.func116 (by kernel_rfl) fun (x : Int) H _ _ => ⟨noA, noA, (wp116 x H).mpr (by simp)⟩
theorem sat100 : Sat Try.prog 100 s100 := sat2 fine [(115, s115)] (sat115.app Sat.none) Try.func100 (by kernel_rfl) fun (x y : Int) H _ _ _ => ⟨noA, noA, (wp100 x y H).mpr (by
  simp only [F.cmpI]; grind)⟩
theorem sat101 : Sat Try.prog 101 s100 := sat2 fine [(116, s115)] (sat116.app Sat.none) Try.func101 (by kernel_rfl) fun (x y : Int) H _ _ _ => ⟨noA, noA, (wp101 x y H).mpr (by
  simp only [F.cmpI]; grind)⟩
theorem sat103 : Sat Try.prog 103 s103 := sat2 fine [(101, s100)] (sat101.app Sat.none) Try.func103 (by kernel_rfl) fun (s t : List Int) H _ hwf hwf2 => ⟨la103 s t, noA, by
  refine (wp103 s t H).mpr ?_
  have hlen := WF_lenS hwf
  have hlen2 := WF_lenS hwf2
  refine ⟨⟨0, ⟨Nat.zero_le _, Nat.zero_le _, rfl⟩, rfl, trivial⟩, ?_⟩
  rintro i ⟨h1, h1', h2⟩
  simp only [and_true, idx_iff, inR64, toNat_cast]
  refine ⟨fun hi => ?_, fun hi => ?_⟩
  · have hi : i < s.length := by simpa using hi
    rw [drop_getD 0 hi] at h2
    refine ⟨by omega, fun hd => ?_, fun hd => ?_⟩
    · rw [drop_all (l := t) (by simpa using hd)] at h2; rw [h2]; rfl
    · have hj : i < t.length := by simpa using hd
      rw [drop_getD 0 hj, F.lexL] at h2
      exact ⟨by omega, fun hd => by rw [h2, if_pos (by simpa using hd)], fun hd => ⟨by omega, i + 1, ⟨by omega, by omega, by rw [h2, if_neg (by simpa using hd)]⟩, by omega, by simp⟩⟩
  · rw [drop_all (show s.length ≤ i by simpa using hi)] at h2
    refine ⟨fun hd => ?_, fun hd => ?_⟩
    · have hj : i < t.length := by simp at hd; omega
      rw [drop_getD 0 hj] at h2; rw [h2]; rfl
    · rw [drop_all (by simp at hd; simp at hi; omega)] at h2; rw [h2]; rfl⟩
end A
end Go.Proofs.Ythgnjimpakpkjaa
namespace Go.Proofs.Ythgnjimpakpkjaa
namespace A
theorem F.rows_len (y : Arr) : (F.rows y).length = (F.cells y (y.shape.length - 1)).length := by simp [F.rows]
theorem F.rows_get (y : Arr) {i : Nat} (d : Arr) (h : i < (F.cells y (y.shape.length - 1)).length) (e : Int × Arr) : (F.rows y).getD i e = ((i : Int), (F.cells y (y.shape.length - 1)).getD i d) := by
  simp only [F.rows, List.getD_eq_getElem?_getD, List.getElem?_map, List.getElem?_zipIdx, List.getElem?_eq_getElem h, Option.map_some, Option.getD_some]
  simp
theorem sat30 : Sat Try.prog 30 s30 := sat1 fine [(50, s50), (67, s67)] (sat50.app (sat67.app Sat.none)) Try.func30 (by kernel_rfl) fun (y : Arr) H hpre _ => ⟨la30 y, noA, by
  refine (wp30 y H).mpr ?_
  have hp : F.aright y = 0 ∧ y.shape ≠ [] := hpre _ (by simp [e30])
  have hL : LIM = 4294967296 := rfl
  have hne : y.shape.length ≠ 0 := fun h => hp.2 (List.length_eq_zero_iff.1 h)
  have h8 := F.aright_len hp.1
  have hk := F.aright_ok hp.1
  have hrl := F.rows_len y
  have hcl := F.cells_len (k := y.shape.length - 1) hp.1
  have hb := F.ssize_bd (F.sright_take (y.shape.length - F.rank (y.shape.length - 1) y.shape.length).toNat hk.s)
  have hget := fun (i : Nat) (hi : i < _) => F.rows_get y (i := i) (Arr.mk 0 [] [] []) hi ((0 : Int), Arr.mk 0 [] [] [])
  generalize hC : F.cells y (y.shape.length - 1) = C at *
  generalize F.rows y = R at *
  simp only [and_true, inR64, idx_iff, toNat_cast]
  refine ⟨fun h => by rw [hp.1] at h; simp at h, fun _ => ⟨fun h => ?_, fun h => ⟨by omega, by omega, ⟨0, Nat.zero_le _, rfl, rfl⟩, ?_⟩⟩⟩
  · simp at h; exact absurd h hp.2
  intro i hi
  refine ⟨fun hlt => ?_, fun hlt => ?_⟩
  · have hlt : i < C.length := by simpa using hlt
    rw [← hget i hlt]
    refine ⟨by omega, by simp; omega, by omega, i + 1, by omega, by omega, by simp, (take_snoc' _ (by omega)).symm⟩
  · have hlt : C.length ≤ i := by simpa using hlt
    exact List.take_of_length_le (by omega)⟩
theorem sat31 : Sat Try.prog 31 s31 := sat1 fine [] Sat.none Try.func31 (by kernel_rfl) fun (l : List (Int × Arr)) H _ hwf => ⟨la31 l, noA, by
  refine (wp31 l H).mpr ?_
  have hL : LIM = 4294967296 := rfl
  have hlen : l.length < 4294967296 := WF_len (t := ROW) hwf
  simp only [and_true, inR64, idx_iff, toNat_cast]
  refine ⟨⟨0, Nat.zero_le _, rfl, trivial, trivial, rfl⟩, fun i hi => ⟨fun hlt => ?_, fun hlt => ?_⟩⟩
  · have hlt : i < l.length := by simpa using hlt
    refine ⟨by omega, by simp; omega, by omega, i + 1, by omega, by omega, by simp, trivial, trivial, ?_⟩
    rw [take_snoc' ((0 : Int), Arr.mk 0 [] [] []) hlt, List.map_append]; rfl
  · rw [List.take_of_length_le (by simpa using hlt)]; rfl⟩
theorem F.mergeL_perm {α : Type} (c : α → α → Int) : ∀ (a b : List α), (F.mergeL c a b).Perm (a ++ b)
  | [], b => by rw [F.mergeL_nil]; exact List.Perm.refl _
  | x :: a, [] => by rw [F.mergeL_nil2]; simp
  | x :: a, y :: b => by
    rw [F.mergeL_cons]
    split
    · exact (F.mergeL_perm c a (y :: b)).cons x
    · exact ((F.mergeL_perm c (x :: a) b).cons y).trans (List.perm_middle.symm)
  termination_by a b => a.length + b.length
theorem F.msort_perm {α : Type} (c : α → α → Int) : ∀ (n : Nat) (l : List α), (F.msort c n l).Perm l
  | 0, l => List.Perm.refl _
  | n + 1, l => by
    simp only [F.msort]
    split
    · exact List.Perm.refl _
    · refine (F.mergeL_perm c _ _).trans ?_
      refine ((F.msort_perm c n _).append (F.msort_perm c n _)).trans ?_
      rw [List.take_append_drop]
theorem F.sort_perm {α : Type} (c : α → α → Int) (l : List α) : (F.sort c l).Perm l := F.msort_perm c _ l
theorem F.sort_length {α : Type} (c : α → α → Int) (l : List α) : (F.sort c l).length = l.length := (F.sort_perm c l).length_eq
theorem F.sort_mem {α : Type} (c : α → α → Int) (l : List α) {x : α} : x ∈ F.sort c l ↔ x ∈ l := (F.sort_perm c l).mem_iff
theorem spG2_app {t a b c : Ty} (f : El t → (El a → El b → Prop) → (El a → El b → El c) → Eff) (x : El t) (pre : El a → El b → Prop) (F : El a → El b → El c) (H : Heap) : spG2 t a b c f [.val t x, .fnp2 a b c pre F] H = some (f x pre F) := by
  simp [spG2, castT, castF2]
theorem cons_of_pos {α : Type} {l : List α} (d : α) (h : 0 < l.length) : l = l.getD 0 d :: l.drop 1 := by
  cases l with
  | nil => simp at h
  | cons x l => rfl
theorem sat32 : Sat Try.prog 32 (spG2 (.sl ROW) ROW ROW I64 e32) := by
  have key : ∀ n, Sat Try.prog 32 (spG2 (.sl ROW) ROW ROW I64 (e32n n)) := by
    intro n
    induction n with
    | zero =>
      intro w Z X pl H xs vs e hsp hpre
      obtain ⟨x, pre, F, rfl, rfl⟩ := spG2_inv hsp
      have : List.length (α := Int × Arr) x < 0 := hpre _ (by simp [e32n, ltE, e32, retP])
      omega
    | succ n ih =>
      refine satG2 fine [(32, spG2 (.sl ROW) ROW ROW I64 (e32n n))] (ih.app Sat.none) Try.func32 (by kernel_rfl) fun (l : List (Int × Arr)) (pre : Int × Arr → Int × Arr → Prop) (c : Int × Arr → Int × Arr → Int) H hpre hwf => ⟨la32 l c, noA, (wp32 l pre c H n).mpr ?_⟩
      have hlen : l.length < 4294967296 := WF_len (t := ROW) hwf
      have hm : l.length < n + 1 := hpre _ (by simp [e32n, ltE, e32, retP])
      have hp : ∀ x ∈ l, ∀ y ∈ l, pre x y := hpre _ (by simp [e32n, ltE, e32, retP])
      have hL : (LIM : Int) = 4294967296 := rfl
      have hLn : LIM = 4294967296 := rfl
      have hdiv : (l.length : Int).tdiv 2 = (l.length / 2 : Nat) := by
        rw [Int.tdiv_eq_ediv_of_nonneg (by omega)]; omega
      rw [hdiv]
      simp only [and_true, inR64, idx_iff, toNat_cast]
      refine ⟨fun h => by rw [F.sort_short c l (by simp at h; omega)], fun h => ?_⟩
      have h2 : ¬ l.length < 2 := by simp at h; omega
      have hse := F.sort_eq c l h2
      refine ⟨by omega, by omega, by omega, by rw [List.length_take]; omega, fun x hx y hy => hp x (List.mem_of_mem_take hx) y (List.mem_of_mem_take hy), by omega, by omega, by omega, by rw [List.length_drop]; omega,
        fun x hx y hy => hp x (List.mem_of_mem_drop hx) y (List.mem_of_mem_drop hy), by omega, ⟨(F.sort c (l.take (l.length / 2)), F.sort c (l.drop (l.length / 2)), []), ⟨hse, ?_, fun x hx => List.mem_of_mem_take ((F.sort_mem c _).1 hx), fun x hx => List.mem_of_mem_drop ((F.sort_mem c _).1 hx)⟩, rfl, rfl, rfl⟩, ?_⟩
      · simp only [F.sort_length, List.length_take, List.length_drop, List.length_nil]; omega
      rintro ⟨p, q, r⟩ ⟨k1, k2, k3, k4⟩
      simp only at k1 k2 k3 k4 ⊢
      refine ⟨fun hc => ?_, fun hc => ?_⟩
      · have hc : 0 < p.length ∧ 0 < q.length := by grind
        obtain ⟨x, p', rfl⟩ : ∃ x p', p = x :: p' := ⟨_, _, cons_of_pos ((0 : Int), Arr.mk 0 [] [] []) hc.1⟩
        obtain ⟨y, q', rfl⟩ : ∃ x p', q = x :: p' := ⟨_, _, cons_of_pos ((0 : Int), Arr.mk 0 [] [] []) hc.2⟩
        have m1 := k3 x (by simp)
        have m2 := k4 y (by simp)
        have d1 : ∀ z, z ∈ p' → z ∈ l := fun z hz => k3 z (by simp [hz])
        have d2 : ∀ z, z ∈ q' → z ∈ l := fun z hz => k4 z (by simp [hz])
        simp only [Int.toNat_zero, Int.toNat_one, List.getD_cons_zero, List.drop_succ_cons, List.drop_zero, List.length_cons] at *
        rw [F.mergeL_cons] at k1
        refine ⟨by omega, by omega, hp _ m1 _ m2, fun hd => ?_, fun hd => ?_⟩
        · rw [if_pos (by simpa using hd)] at k1
          exact ⟨by omega, by simp; omega, by omega, (_, _, _), ⟨by simpa using k1, by simp only [List.length_append, List.length_cons, List.length_nil]; omega, d1, k4⟩, by simp only [List.length_cons]; omega, rfl, rfl, rfl⟩
        · rw [if_neg (by simpa using hd)] at k1
          exact ⟨by omega, by simp; omega, by omega, (_, _, _), ⟨by simpa using k1, by simp only [List.length_append, List.length_cons, List.length_nil]; omega, k3, d2⟩, by simp only [List.length_cons]; omega, rfl, rfl, rfl⟩
      · have hc : p = [] ∨ q = [] := by
          cases p <;> cases q <;> simp at hc ⊢
        refine ⟨by simp; omega, by simp; omega, ?_⟩
        rw [k1]
        rcases hc with rfl | rfl
        · rw [F.mergeL_nil]; simp
        · rw [F.mergeL_nil2]; simp
  intro w Z X pl H xs vs e hsp hpre hg has hkn hrng
  obtain ⟨x, pre, F, rfl, rfl⟩ := spG2_inv hsp
  exact key (List.length (α := Int × Arr) x + 1) w Z X pl H [.val (.sl ROW) x, .fnp2 ROW ROW I64 pre F] vs (e32n (List.length (α := Int × Arr) x + 1) x pre F) (spG2_app _ _ _ _ _) (fun q hq => by
    simp only [e32n, ltE, e32, retP, List.mem_cons, List.not_mem_nil, or_false] at hq
    rcases hq with rfl | rfl
    · exact Nat.lt_succ_self _
    · exact hpre _ (by simp [e32, retP])) hg has hkn hrng
end A
end Go.Proofs.Ythgnjimpakpkjaa
namespace Go.Proofs.Ythgnjimpakpkjaa
namespace A
theorem F.kids_len (p d i : Int) : (F.kids p d i).length = d.toNat := by simp [F.kids]
theorem F.kids_get (p d i : Int) {k : Nat} (h : k < d.toNat) : (F.kids p d i).getD k 0 = i + (k : Int) * p := by
  simp only [F.kids, List.getD_eq_getElem?_getD, List.getElem?_map, List.getElem?_range h, Option.map_some, Option.getD_some]
theorem F.celA_step (a b : Arr) (ax i j : Int) (h0 : 0 ≤ ax) (h1 : ax < a.shape.length) (h2 : ax < b.shape.length) : F.celA a b ax i j =
    F.lexL (F.celF F.cmp a b (a.shape.drop (ax + 1).toNat) (b.shape.drop (ax + 1).toNat)) (F.kids (F.ssize (a.shape.drop (ax + 1).toNat)) (a.shape.getD ax.toNat 0) i) (F.kids (F.ssize (b.shape.drop (ax + 1).toNat)) (b.shape.getD ax.toNat 0) j) := by
  unfold F.celA
  rw [drop_getD 0 (show ax.toNat < a.shape.length by omega), drop_getD 0 (show ax.toNat < b.shape.length by omega), F.celF, show (ax + 1).toNat = ax.toNat + 1 by omega]
theorem F.pr_drop {s : List Int} {k : Nat} (h : k < s.length) : F.pr (s.drop k) = s.getD k 0 * F.pr (s.drop (k + 1)) := by
  rw [drop_getD 0 h, F.pr]
theorem wp117_ok (r : Int) (a b : Arr) (ax i j : Int) (H : Heap) (n : Nat) (hp : F.celPre r a b ax i j) (hm : mCel a ax < n + 1) :
    (wpA tb [(117, nCel n), (68, nCmp n), (42, s42), (101, s100)] false [] (la117 a b ax i j) noA (body Try.f117) (retQ tb Try.f117.results.toList (eCel r a b ax i j) (knw (celL r a b) H)) (entry [.val I64 ax, .val I64 i, .val I64 j, .ref 500000 0, .ref 500001 0, .ref 500002 0, .ref 500003 0] (knw (celL r a b) H))) := by
  refine (wp117 r a b ax i j H n).mpr ?_
  obtain ⟨rfl, hk, hl, va, vb, h0, h1, i0, i1, j0, j1⟩ := hp
  have oa := F.aright_ok va
  have ob := F.aright_ok vb
  unfold mCel at hm
  have ra := oa.n
  have rb := ob.n
  have sa := F.ssize_bd oa.s
  have sb := F.ssize_bd ob.s
  rw [F.sprod_pr] at i1 j1
  have h8 := F.sright_len oa.s
  have hra : F.rsize a = if a.kind = 3 then (a.items.length : Int) else a.nums.length := by
    unfold F.rsize
    rcases oa.k with hk | hk | hk <;> simp [hk]
  have hrb : F.rsize b = if a.kind = 3 then (b.items.length : Int) else b.nums.length := by
    unfold F.rsize
    rw [hk]
    rcases ob.k with hk | hk | hk <;> simp [hk]
  simp only [and_true, inR64, idx_iff]
  have leafE : ax = a.shape.length → F.celA a b ax i j = F.leaf F.cmp a b i j := fun he => by
    unfold F.celA
    rw [drop_all (l := a.shape) (by omega), drop_all (l := b.shape) (by omega)]; rfl
  have one : ax = a.shape.length → i < F.rsize a ∧ j < F.rsize b := fun he => by
    rw [drop_all (l := a.shape) (by omega)] at i1
    rw [drop_all (l := b.shape) (by omega)] at j1
    simp only [F.pr] at i1 j1
    omega
  refine ⟨fun hc => ?_, fun hc => ⟨fun hx => ?_, fun hx => ?_⟩⟩
  · have hc : ax = a.shape.length ∧ a.kind = 3 := by grind
    obtain ⟨o1, o2⟩ := one hc.1
    rw [hra, if_pos hc.2] at o1
    rw [hrb, if_pos hc.2] at o2
    have m1 := getD_mem (Arr.mk 0 [] [] []) (show i.toNat < a.items.length by omega)
    have m2 := getD_mem (Arr.mk 0 [] [] []) (show j.toNat < b.items.length by omega)
    have z1 := sz_items m1
    refine ⟨by omega, by omega, by omega, ⟨oa.i _ m1, ob.i _ m2⟩, ?_⟩
    rw [leafE hc.1, F.leaf, if_pos hc.2]
    simp only [List.getD_eq_getElem?_getD, List.getElem?_eq_getElem (show i.toNat < a.items.length by omega), List.getElem?_eq_getElem (show j.toNat < b.items.length by omega), Option.getD_some]
  · have hx : ax = a.shape.length := by simpa using hx
    have hc : ¬ a.kind = 3 := by grind
    obtain ⟨o1, o2⟩ := one hx
    rw [hra, if_neg hc] at o1
    rw [hrb, if_neg hc] at o2
    refine ⟨by omega, by omega, ?_⟩
    rw [leafE hx, F.leaf, if_neg hc]
  · have hx : ax ≠ a.shape.length := by simpa using hx
    have hax : ax.toNat < a.shape.length := by omega
    have hbx : ax.toNat < b.shape.length := by omega
    have hst := F.celA_step a b ax i j h0 (by omega) (by omega)
    rw [F.pr_drop hax] at i1
    rw [F.pr_drop hbx] at j1
    have e1 : (ax + 1).toNat = ax.toNat + 1 := by omega
    have va' := F.sright_drop (ax.toNat + 1) oa.s
    have vb' := F.sright_drop (ax.toNat + 1) ob.s
    have pa := F.sright_pr va'
    have pb := F.sright_pr vb'
    have da := (F.sright1_nn (F.sright_iff.1 oa.s).2).1 _ (getD_mem 0 hax)
    have da' := (F.sright1_nn (F.sright_iff.1 oa.s).2).2 _ (getD_mem 0 hax)
    have db := (F.sright1_nn (F.sright_iff.1 ob.s).2).1 _ (getD_mem 0 hbx)
    have db' := (F.sright1_nn (F.sright_iff.1 ob.s).2).2 _ (getD_mem 0 hbx)
    have cpre : ∀ i' j' : Int, F.celPre a.shape.length a b (ax + 1) i' j' ↔ 0 ≤ i' ∧ i' + F.pr (a.shape.drop (ax.toNat + 1)) ≤ F.rsize a ∧ 0 ≤ j' ∧ j' + F.pr (b.shape.drop (ax.toNat + 1)) ≤ F.rsize b := fun i' j' => by
      unfold F.celPre
      rw [F.sprod_pr, F.sprod_pr, e1]
      constructor
      · rintro ⟨_, _, _, _, _, _, _, h⟩; exact h
      · exact fun h => ⟨rfl, hk, hl, va, vb, by omega, by omega, h⟩
    have cel : ∀ i' j' : Int, F.celA a b (ax + 1) i' j' = F.celF F.cmp a b (a.shape.drop (ax.toNat + 1)) (b.shape.drop (ax.toNat + 1)) i' j' := fun i' j' => by
      unfold F.celA
      rw [e1]
    rw [e1] at hst ⊢
    rw [F.ssize_pr va', F.ssize_pr vb'] at hst ⊢
    simp only [cpre, cel]
    generalize a.shape.getD ax.toNat 0 = d at *
    generalize b.shape.getD ax.toNat 0 = e at *
    generalize hpA : F.pr (a.shape.drop (ax.toNat + 1)) = p at *
    generalize hpB : F.pr (b.shape.drop (ax.toNat + 1)) = q at *
    generalize F.celF F.cmp a b (a.shape.drop (ax.toNat + 1)) (b.shape.drop (ax.toNat + 1)) = g at *
    generalize F.celA a b ax i j = res at *
    have l1 := F.kids_len p d i
    have l2 := F.kids_len q e j
    have g1 := fun (k : Nat) (h : k < d.toNat) => F.kids_get p d i h
    have g2 := fun (k : Nat) (h : k < e.toNat) => F.kids_get q e j h
    generalize F.kids p d i = K1 at *
    generalize F.kids q e j = K2 at *
    refine ⟨by omega, by omega, by omega, by omega, by omega, by omega, ⟨0, ⟨by omega, by omega, hst⟩, rfl⟩, ?_⟩
    rintro k ⟨k1, k2, k3⟩
    refine ⟨fun hlt => ?_, fun hlt => ?_⟩
    · have hlt : (k : Int) < d ∧ (k : Int) < e := by simp at hlt; omega
      have hk1 : k < K1.length := by omega
      have hk2 : k < K2.length := by omega
      rw [drop_getD 0 hk1, drop_getD 0 hk2, F.lexL, g1 k (by omega), g2 k (by omega)] at k3
      have m1 : 0 ≤ (k : Int) * p := Int.mul_nonneg (by omega) pa.1
      have m2 : 0 ≤ (k : Int) * q := Int.mul_nonneg (by omega) pb.1
      have n1 : (k : Int) * p ≤ 65536 * 65536 := Int.mul_le_mul (by omega) pa.2 pa.1 (by omega)
      have n2 : (k : Int) * q ≤ 65536 * 65536 := Int.mul_le_mul (by omega) pb.2 pb.1 (by omega)
      have o1 : (k : Int) * p + p ≤ d * p := by
        have := Int.mul_le_mul_of_nonneg_right (show (k : Int) + 1 ≤ d by omega) pa.1
        rw [Int.add_mul, Int.one_mul] at this; exact this
      have o2 : (k : Int) * q + q ≤ e * q := by
        have := Int.mul_le_mul_of_nonneg_right (show (k : Int) + 1 ≤ e by omega) pb.1
        rw [Int.add_mul, Int.one_mul] at this; exact this
      refine ⟨by omega, by omega, by omega, by omega, by omega, by omega, by omega, fun hd => ?_, fun hd => ?_⟩
      · rw [if_pos (by simpa using hd)] at k3; exact k3.symm
      · rw [if_neg (by simpa using hd)] at k3
        exact ⟨by omega, k + 1, ⟨by omega, by omega, k3⟩, by omega, by simp⟩
    · have hlt : d ≤ (k : Int) ∨ e ≤ (k : Int) := by simp at hlt; omega
      refine ⟨by omega, by omega, ?_⟩
      rw [k3]
      unfold F.cmpI
      by_cases c1 : d < e
      · rw [if_pos c1, drop_all (l := K1) (by omega), drop_getD (l := K2) 0 (by omega), F.lexL]
      · rw [if_neg c1]
        by_cases c2 : e < d
        · rw [if_pos c2, drop_all (l := K2) (by omega), drop_getD (l := K1) 0 (by omega), F.lexL]
        · rw [if_neg c2, drop_all (l := K1) (by omega), drop_all (l := K2) (by omega), F.lexL]
theorem nCon_inv {n : Nat} {xs : List AV} {H : Heap} {e : Eff} (h : nCon n xs H = some e) : ∃ x y : Arr, xs = [.val AR x, .val AR y] ∧ e = ltE (20 * F.sz x + 10 < n) (e102 x y) := sp2_inv h
theorem nCmp_inv {n : Nat} {xs : List AV} {H : Heap} {e : Eff} (h : nCmp n xs H = some e) : ∃ x y : Arr, xs = [.val AR x, .val AR y] ∧ e = ltE (20 * F.sz x + 11 < n) (e68 x y) := sp2_inv h
theorem satCmp : ∀ n, Sat Try.prog 117 (nCel n) ∧ Sat Try.prog 102 (nCon n) ∧ Sat Try.prog 68 (nCmp n) := by
  intro n
  induction n with
  | zero =>
    refine ⟨fun w Z X pl H xs vs e hsp hpre => ?_, fun w Z X pl H xs vs e hsp hpre => ?_, fun w Z X pl H xs vs e hsp hpre => ?_⟩
    · obtain ⟨r, a, b, ax, i, j, rfl, _, rfl⟩ := spCells_inv hsp
      have := hpre (mCel a ax < 0) (by simp [ltE, eCel, retP])
      omega
    · obtain ⟨x, y, rfl, rfl⟩ := nCon_inv hsp
      have := hpre (20 * F.sz x + 10 < 0) (by simp [ltE, e102, retP])
      omega
    · obtain ⟨x, y, rfl, rfl⟩ := nCmp_inv hsp
      have := hpre (20 * F.sz x + 11 < 0) (by simp [ltE, e68, retP])
      omega
  | succ n ih =>
    obtain ⟨i1, i2, i3⟩ := ih
    refine ⟨?_, ?_, ?_⟩
    · refine satK fine [(117, nCel n), (68, nCmp n), (42, s42), (101, s100)] (i1.app (i3.app (sat42.app (sat101.app Sat.none)))) Try.func117 (by kernel_rfl) fun xs H e hsp hpre hwf => ?_
      obtain ⟨r, a, b, ax, i, j, rfl, hH, rfl⟩ := spCells_inv hsp
      exact ⟨celL r a b, hH, la117 a b ax i j, noA, wp117_ok r a b ax i j H n (hpre _ (by simp [ltE, eCel, retP])) (hpre (mCel a ax < n + 1) (by simp [ltE]))⟩
    · exact sat2 fine [(117, nCel n)] (i1.app Sat.none) Try.func102 (by kernel_rfl) fun (x y : Arr) H hpre _ _ => ⟨noA, noA, by
        refine (wp102 x y H n).mpr ?_
        have hm : 20 * F.sz x + 10 < n + 1 := hpre _ (by simp [ltE, e102, retP])
        have hv : F.aright x = 0 ∧ F.aright y = 0 := hpre _ (by simp [ltE, e102, retP])
        have h8 := F.aright_len hv.1
        have oa := F.aright_ok hv.1
        have ob := F.aright_ok hv.2
        refine ⟨fun hc => ?_, fun hc => ?_⟩
        · rw [F.contF, if_pos (by grind)]; exact ⟨rfl, trivial⟩
        · have hc : x.kind = y.kind ∧ x.shape.length = y.shape.length := by grind
          refine ⟨by simp only [Int.toNat_zero]; omega, ⟨rfl, hc.1, hc.2, hv.1, hv.2, by omega, by omega, by omega, ?_, by omega, ?_⟩, ?_, trivial⟩
          · rw [F.sprod_pr, oa.n, F.ssize_pr oa.s]; simp
          · rw [F.sprod_pr, ob.n, F.ssize_pr ob.s]; simp
          · rw [F.contF, if_neg (by grind)]; rfl⟩
    · exact sat2 fine [(102, nCon n), (100, s100), (101, s100), (103, s103), (99, s99)] (i2.app (sat100.app (sat101.app (sat103.app (sat99.app Sat.none))))) Try.func68 (by kernel_rfl) fun (x y : Arr) H hpre _ _ => ⟨noA, noA, by
        refine (wp68 x y H n).mpr ?_
        have hm : 20 * F.sz x + 11 < n + 1 := hpre _ (by simp [ltE, e68, retP])
        exact ⟨by omega, hpre _ (by simp [ltE, e68, retP]), by rw [F.cmp_eq, F.cmpF], trivial⟩⟩
theorem sp2_app {t u : Ty} (f : El t → El u → Eff) (x : El t) (y : El u) (H : Heap) : sp2 t u f [.val t x, .val u y] H = some (f x y) := by
  simp [sp2, castT]
theorem sat68 : Sat Try.prog 68 s68 := by
  intro w Z X pl H xs vs e hsp hpre hg has hkn hrng
  obtain ⟨x, y, rfl, rfl⟩ := sp2_inv hsp
  exact (satCmp (20 * F.sz x + 12)).2.2 w Z X pl H [.val AR x, .val AR y] vs (ltE (20 * F.sz x + 11 < 20 * F.sz x + 12) (e68 x y)) (sp2_app _ _ _ _) (fun q hq => by
    simp only [ltE, e68, retP, List.mem_cons, List.not_mem_nil, or_false] at hq
    rcases hq with rfl | rfl
    · exact Nat.lt_succ_self _
    · exact hpre _ (by simp [e68, retP])) hg has hkn hrng
theorem sat34 : Sat Try.prog 34 s34 := sat2 fine [(50, s50), (68, s68)] (sat50.app (sat68.app Sat.none)) Try.func34 (by kernel_rfl) fun (x y : Arr) H _ _ _ => ⟨noA, noA, (wp34 x y H).mpr (by
  unfold F.compare
  refine ⟨fun h => ⟨by rw [if_pos (by grind)], trivial⟩, fun h => ?_⟩
  have : F.aright x = 0 ∧ F.aright y = 0 := by grind
  exact ⟨this, by rw [if_neg (by omega)], trivial⟩)⟩
theorem sat33 : Sat Try.prog 33 s33 := sat2 fine [(34, s34)] (sat34.app Sat.none) Try.func33 (by kernel_rfl) fun (x y : Int × Arr) H _ _ _ => ⟨noA, noA, (wp33 x y H).mpr ⟨rfl, trivial⟩⟩
theorem sat36 : Sat Try.prog 36 s33 := sat2 fine [(34, s34)] (sat34.app Sat.none) Try.func36 (by kernel_rfl) fun (x y : Int × Arr) H _ _ _ => ⟨noA, noA, (wp36 x y H).mpr ⟨rfl, trivial⟩⟩
theorem sat9 : Sat Try.prog 9 s9 := sat1 fine [(30, s30), (32, spG2 (.sl ROW) ROW ROW I64 e32), (31, s31), (33, s33)] (sat30.app (sat32.app (sat31.app (sat33.app Sat.none)))) Try.func9 (by kernel_rfl) fun (y : Arr) H hpre _ => ⟨noA, noA, (wp9 y H).mpr
  ⟨hpre _ (by simp [e9, retP2]), (fun h => by simp at h), fun _ => ⟨fun _ _ _ _ => trivial, rfl, rfl, trivial⟩⟩⟩
theorem flatmap_take {α β : Type} (l : List α) (g : α → List β) (d : α) {i : Nat} (h : i < l.length) : ((l.take (i + 1)).map g).flatten = ((l.take i).map g).flatten ++ g (l.getD i d) := by
  rw [take_snoc' d h, List.map_append, List.flatten_append]; simp
theorem flatmap_le {α β : Type} (l : List α) (g : α → List β) (i : Nat) : ((l.take i).map g).flatten.length ≤ (l.map g).flatten.length := by
  conv => rhs; rw [← List.take_append_drop i l, List.map_append, List.flatten_append, List.length_append]
  omega
theorem sat10 : Sat Try.prog 10 s10 := sat1 fine [(30, s30), (32, spG2 (.sl ROW) ROW ROW I64 e32), (35, s35), (36, s33)] (sat30.app (sat32.app (sat35.app (sat36.app Sat.none)))) Try.func10 (by kernel_rfl) fun (y : Arr) H hpre _ => ⟨la10 y, noA, by
  refine (wp10 y H).mpr ?_
  have hp : F.aright y = 0 ∧ y.shape ≠ [] ∧ (F.sorted y).nums.length < 4294967296 ∧ (F.sorted y).items.length < 4294967296 := hpre _ (by simp [e10, retP2])
  refine ⟨⟨hp.1, hp.2.1⟩, (fun h => by simp at h), fun _ => ⟨fun _ _ _ _ => trivial, ?_⟩⟩
  have hL : LIM = 4294967296 := rfl
  have hS : (F.sort F.rowc (F.rows y)).length < 65537 := by
    rw [F.sort_length, F.rows_len, F.cells_len hp.1]
    have := F.ssize_bd (F.sright_take (y.shape.length - F.rank (y.shape.length - 1) y.shape.length).toNat (F.aright_ok hp.1).s)
    omega
  have n1 : ((F.sort F.rowc (F.rows y)).map fun r => r.2.nums).flatten.length < 4294967296 := hp.2.2.1
  have n2 : ((F.sort F.rowc (F.rows y)).map fun r => r.2.items).flatten.length < 4294967296 := hp.2.2.2
  have hS2 : F.sorted y = .mk y.kind y.shape ((F.sort F.rowc (F.rows y)).map fun r => r.2.nums).flatten ((F.sort F.rowc (F.rows y)).map fun r => r.2.items).flatten := rfl
  rw [hS2]
  have eta : (fun (q3 q4 : Int × Arr) => F.rowc q3 q4) = F.rowc := rfl
  simp only [eta, and_true, inR64, idx_iff, toNat_cast]
  generalize F.sort F.rowc (F.rows y) = R at *
  refine ⟨⟨0, Nat.zero_le _, rfl, trivial, trivial, rfl, rfl⟩, fun i hi => ⟨fun hlt => ?_, fun hlt => ?_⟩⟩
  · have hlt : i < R.length := by simpa using hlt
    have f1 := flatmap_take R (fun r => r.2.nums) ((0 : Int), Arr.mk 0 [] [] []) hlt
    have f2 := flatmap_take R (fun r => r.2.items) ((0 : Int), Arr.mk 0 [] [] []) hlt
    have g1 := flatmap_le R (fun r => r.2.nums) (i + 1)
    have g2 := flatmap_le R (fun r => r.2.items) (i + 1)
    rw [← f1, ← f2]
    exact ⟨by omega, by omega, by omega, by omega, i + 1, by omega, by omega, by simp, trivial, trivial, rfl, rfl⟩
  · have : R.take i = R := List.take_of_length_le (by simpa using hlt)
    rw [this]⟩
end A
end Go.Proofs.Ythgnjimpakpkjaa
namespace Go.Proofs.Ythgnjimpakpkjaa
namespace A
theorem sat37 : Sat Try.prog 37 s37 := sat1 fine [] Sat.none Try.func37 (by kernel_rfl) fun (y : Arr) H hpre _ => ⟨noA, noA, by
  refine (wp37 y H).mpr ?_
  have hp : y.shape ≠ [] := hpre _ (by simp [e37, retP2])
  have hne : y.shape.length ≠ 0 := fun h => hp (List.length_eq_zero_iff.1 h)
  refine ⟨fun h => by simp at h; exact absurd h hp, fun _ => ⟨⟨by omega, by omega⟩, by omega, rfl, rfl, trivial⟩⟩⟩
theorem sat71 : Sat Try.prog 71 s71 := sat1 fine [(50, s50)] (sat50.app Sat.none) Try.func71 (by kernel_rfl) fun (y : Arr) H _ _ => ⟨noA, noA, (wp71 y H).mpr ⟨rfl, trivial⟩⟩
theorem sat39 : Sat Try.prog 39 s39 := sat1 fine [(70, s70), (71, s71)] (sat70.app (sat71.app Sat.none)) Try.func39 (by kernel_rfl) fun (l : List Arr) H _ _ => ⟨noA, noA, (wp39 l H).mpr ⟨fun _ _ => trivial, rfl, trivial⟩⟩
theorem s72_inv {xs : List AV} {H : Heap} {e : Eff} (h : s72 xs H = some e) : ∃ n d : Int, xs = [.val I64 n, .ref 500000 0] ∧ H 500000 = .live (.val I64 d) ∧ e = e72 n d := by
  unfold s72 at h
  split at h
  · split at h
    · cases h; exact ⟨_, _, rfl, by assumption, rfl⟩
    · cases h
  · cases h
theorem sat72 : Sat Try.prog 72 s72 := satK fine [] Sat.none Try.func72 (by kernel_rfl) fun xs H e hsp _ _ => by
  obtain ⟨n, d, rfl, hH, rfl⟩ := s72_inv hsp
  refine ⟨[(500000, .live (.val I64 d))], by simpa using hH, noA, noA, (wp72 n d H).mpr ⟨?_, trivial⟩⟩
  by_cases h : n < 0 <;> simp [h]
theorem sat41 : Sat Try.prog 41 s41 := sat2 fine [(45, s45), (72, s72)] (sat45.app (sat72.app Sat.none)) Try.func41 (by kernel_rfl) fun (l : List Int) (d : Int) H _ _ _ => ⟨noA, noA, (wp41 l d H).mpr ⟨fun _ _ => trivial, rfl, trivial⟩⟩
theorem sat44 : Sat Try.prog 44 s44 := sat1 fine [(50, s50)] (sat50.app Sat.none) Try.func44 (by kernel_rfl) fun (y : Arr) H _ _ => ⟨noA, noA, (wp44 y H).mpr ⟨rfl, trivial⟩⟩
theorem sat46 : Sat Try.prog 46 s108 := sat1 fine [] Sat.none Try.func46 (by kernel_rfl) fun (n : Int) H _ _ => ⟨noA, noA, (wp46 n H).mpr ⟨rfl, trivial⟩⟩
theorem sat13 : Sat Try.prog 13 s13 := sat1 fine [] Sat.none Try.func13 (by kernel_rfl) fun (n : Int) H _ _ => ⟨noA, noA, (wp13 n H).mpr ⟨rfl, trivial⟩⟩
theorem sat14 : Sat Try.prog 14 s14 := sat1 fine [] Sat.none Try.func14 (by kernel_rfl) fun (y : Arr) H _ _ => ⟨noA, noA, by
  refine (wp14 y H).mpr ?_
  refine ⟨fun h => ?_, fun h => ?_⟩
  · have : y.shape = [] := by simpa using h
    rw [if_pos this]; exact ⟨rfl, trivial⟩
  · have h : y.shape ≠ [] := by simpa using h
    have hne : y.shape.length ≠ 0 := fun h' => h (List.length_eq_zero_iff.1 h')
    rw [if_neg h]; exact ⟨⟨by omega, by omega⟩, rfl, trivial⟩⟩
theorem sat23 : Sat Try.prog 23 s23 := sat1 fine [] Sat.none Try.func23 (by kernel_rfl) fun (l : List Int) H _ _ => ⟨noA, noA, (wp23 l H).mpr ⟨rfl, trivial⟩⟩
theorem F.gw_snoc (y : Arr) (l : List Int) (i : Int) : F.gw y (l ++ [i]) = F.gw y l + (1 + F.aweight (y.items.getD i.toNat (Arr.mk 0 [] [] []))) := by simp [F.gw]
theorem F.gw_nn (y : Arr) : ∀ l : List Int, 0 ≤ F.gw y l
  | [] => by simp [F.gw]
  | i :: l => by
    have := F.aweight_bd (y.items.getD i.toNat (Arr.mk 0 [] [] []))
    have := F.gw_nn y l
    simp only [F.gw, List.map_cons, List.sum_cons] at *
    omega
theorem F.gw_app (y : Arr) (l m : List Int) : F.gw y (l ++ m) = F.gw y l + F.gw y m := by simp [F.gw]
theorem F.gw_le (y : Arr) (l : List Int) (k : Nat) : F.gw y (l.take k) ≤ F.gw y l := by
  have h := F.gw_app y (l.take k) (l.drop k)
  rw [List.take_append_drop] at h
  have := F.gw_nn y (l.drop k)
  omega
theorem sat43 : Sat Try.prog 43 s43 := sat3 fine [(35, s35), (74, s74), (75, s75)] (sat35.app (sat74.app (sat75.app Sat.none))) Try.func43 (by kernel_rfl) fun (y : Arr) (s l : List Int) H hpre _ _ hwf => ⟨la43 y s l, noA, by
  refine (wp43 y s l H).mpr ?_
  have hp : (∀ i ∈ l, 0 ≤ i ∧ i < (if y.kind = 3 then (y.items.length : Int) else y.nums.length)) ∧ (y.kind = 3 → F.gw y l ≤ 262144) := hpre _ (by simp [e43, retP2])
  have hlen := WF_lenS hwf
  have hL : LIM = 4294967296 := rfl
  simp only [and_true, inR64, idx_iff, toNat_cast]
  have hshape : ∀ m, (F.gather y s m).kind = y.kind ∧ (F.gather y s m).shape = s := fun m => by unfold F.gather; split <;> exact ⟨rfl, rfl⟩
  refine ⟨⟨0, Nat.zero_le _, rfl, by simp [F.gw], trivial, trivial, by unfold F.gather; split <;> rfl, by unfold F.gather; split <;> rfl⟩, fun i hi => ⟨fun hlt => ?_, fun hlt => ?_⟩⟩
  · have hlt : i < l.length := by simpa using hlt
    have hb := hp.1 _ (getD_mem 0 hlt)
    have hgw := F.gw_le y l (i + 1)
    have hg0 := F.gw_nn y (l.take i)
    have hg1 := F.gw_nn y (l.take (i + 1))
    have hsn := take_snoc' 0 hlt
    refine ⟨by omega, fun hk => ?_, fun hk => ?_⟩
    · have hk : y.kind ≠ 3 := by simpa using hk
      rw [if_neg hk] at hb
      have gn : ∀ m, (F.gather y s m).nums = m.map fun (i : Int) => y.nums.getD i.toNat 0 := fun m => by unfold F.gather; rw [if_pos hk]; rfl
      have gi : ∀ m, (F.gather y s m).items = [] := fun m => by unfold F.gather; rw [if_pos hk]; rfl
      simp only [gn, gi, if_neg hk]
      refine ⟨by omega, by simp; omega, by omega, i + 1, by omega, by omega, by simp, trivial, trivial, trivial, ?_, trivial⟩
      rw [hsn, List.map_append]; rfl
    · have hk : y.kind = 3 := by simpa using hk
      rw [if_pos hk] at hb
      have hgw' := hp.2 hk
      have gn : ∀ m, (F.gather y s m).nums = [] := fun m => by unfold F.gather; rw [if_neg (by simp [hk])]; rfl
      have gi : ∀ m, (F.gather y s m).items = m.map fun (i : Int) => y.items.getD i.toNat (Arr.mk 0 [] [] []) := fun m => by unfold F.gather; rw [if_neg (by simp [hk])]; rfl
      simp only [gn, gi, if_pos hk]
      have hab := F.aweight_bd (y.items.getD (l.getD i 0).toNat (Arr.mk 0 [] [] []))
      have hsw := F.gw_snoc y (l.take i) (l.getD i 0)
      rw [← hsn] at hsw
      rw [← hsw]
      refine ⟨by omega, by omega, by omega, fun h => by simp at h; omega, fun h => ?_⟩
      refine ⟨by omega, by simp; omega, by omega, i + 1, by omega, by omega, by simp, rfl, trivial, trivial, trivial, ?_⟩
      rw [hsn, List.map_append]; rfl
  · have : l.take i = l := List.take_of_length_le (by simpa using hlt)
    rw [this]
    unfold F.gather
    split <;> rfl⟩
theorem sat12 : Sat Try.prog 12 s12 := sat1 fine [(44, s44), (45, s45), (46, s108), (40, s40), (35, s35), (42, s42)] (sat44.app (sat45.app (sat46.app (sat40.app (sat35.app (sat42.app Sat.none)))))) Try.func12 (by kernel_rfl) fun (y : Arr) H hpre _ => ⟨la12 y, noA, by
  refine (wp12 y H).mpr ?_
  have hp : F.aright y = 0 ∧ y.kind = 1 ∧ y.shape.length ≤ 1 ∧ F.hneg y.nums = false ∧ F.sright y.nums = true := hpre _ (by simp [e12, retP2])
  have hb := F.ssize_bd hp.2.2.2.2
  have hL : LIM = 4294967296 := rfl
  have hn : (y.nums.any fun (q3 : Int) => decide (q3 < (0 : Int))) = false := hp.2.2.2.1
  have hio : F.iota y = .mk 1 y.nums ((List.range (F.ssize y.nums).toNat).map fun (k : Nat) => (k : Int)) [] := rfl
  rw [hio, hn, hp.1, hp.2.1, hp.2.2.2.2]
  generalize F.ssize y.nums = S at *
  simp only [and_true, inR64]
  refine ⟨fun h => by simp at h, fun _ => ⟨fun h => by simp at h, fun _ => ⟨fun h => by simp at h; omega, fun _ => ⟨fun _ _ => trivial, (fun h => by cases h), fun _ => ⟨(fun h => by cases h), fun _ => ?_⟩⟩⟩⟩⟩
  refine ⟨⟨0, by omega, rfl, trivial, trivial, rfl⟩, fun i hi => ⟨fun hlt => ?_, fun hlt => ?_⟩⟩
  · have hlt : (i : Int) < S := by simpa using hlt
    refine ⟨by simp; omega, by omega, i + 1, by omega, by omega, by simp, trivial, trivial, ?_⟩
    rw [List.range_succ, List.map_append]; rfl
  · have hlt : S.toNat = i := by simp at hlt; omega
    rw [hlt]⟩
theorem F.fromI_snoc (n : Int) (l : List Int) (i : Int) : F.fromI n (l ++ [i]) = F.fromI n l ++ (List.range n.toNat).map fun (k : Nat) => i * n + (k : Int) := by simp [F.fromI]
theorem F.fromI_len (n : Int) (l : List Int) : (F.fromI n l).length = l.length * n.toNat := by
  unfold F.fromI
  rw [List.length_flatten, List.map_map]
  induction l with
  | nil => simp
  | cons x l ih => simp only [List.map_cons, List.sum_cons, ih, Function.comp, List.length_map, List.length_range, List.length_cons]; rw [Nat.add_mul]; omega
theorem F.fromI_mem {n d : Int} {l : List Int} (h0 : 0 ≤ n) (hl : ∀ i ∈ l, 0 ≤ i ∧ i < d) : ∀ q ∈ F.fromI n l, 0 ≤ q ∧ q < d * n := by
  intro q hq
  unfold F.fromI at hq
  obtain ⟨m, hm, hq⟩ := List.mem_flatten.1 hq
  obtain ⟨i, hi, rfl⟩ := List.mem_map.1 hm
  obtain ⟨k, hk, rfl⟩ := List.mem_map.1 hq
  have hk := List.mem_range.1 hk
  obtain ⟨a, b⟩ := hl i hi
  have m0 : 0 ≤ i * n := Int.mul_nonneg a h0
  have m2 : i * n + n ≤ d * n := by
    have := Int.mul_le_mul_of_nonneg_right (show i + 1 ≤ d by omega) h0
    rw [Int.add_mul, Int.one_mul] at this; exact this
  omega
theorem F.within_iff {l : List Int} {d : Int} : F.within l d = true ↔ ∀ i ∈ l, 0 ≤ i ∧ i < d := by
  unfold F.within
  simp only [Bool.not_eq_true', List.any_eq_false, Bool.or_eq_true, decide_eq_true_eq, not_or, Int.not_lt, Int.not_le]
theorem sat11 : Sat Try.prog 11 s11 := sat2 fine [(37, s37), (38, s38), (39, s39), (40, s40), (41, s41), (42, s42), (43, s43)] (sat37.app (sat38.app (sat39.app (sat40.app (sat41.app (sat42.app (sat43.app Sat.none))))))) Try.func11 (by kernel_rfl) fun (x y : Arr) H hpre _ _ => ⟨la11 x y, noA, by
  refine (wp11 x y H).mpr ?_
  have hp : fromPre x y := hpre _ (by simp [e11, retP2])
  obtain ⟨vx, vy, hk, hne, hsr, hw, hgw, hlen⟩ := hp
  have ox := F.aright_ok vx
  have oy := F.aright_ok vy
  have hl0 : y.shape.length ≠ 0 := fun h => hne (List.length_eq_zero_iff.1 h)
  have hfl : [x.shape, y.shape.drop 1].flatten = x.shape ++ y.shape.drop 1 := by simp
  have hany : ([x, y].any fun (q0 : Arr) => !decide (F.aright q0 = (0 : Int))) = false := by simp [vx, vy]
  rw [hfl, hany, hsr, hk, hw]
  have h8 := F.sright_len hsr
  have hs1 := F.sright_drop 1 oy.s
  have hpn := F.ssize_bd hs1
  have hlx := ox.len
  rw [if_neg (by omega)] at hlx
  have hly := oy.len
  have hprod := F.sright_pr hsr
  rw [F.pr_append, ← hlx, ← F.ssize_pr hs1] at hprod
  have hd := F.within_iff.1 hw
  have hpy : F.pr y.shape = y.shape.getD 0 0 * F.ssize (y.shape.drop 1) := by
    rw [F.ssize_pr hs1]
    have := F.pr_drop (s := y.shape) (k := 0) (by omega)
    simpa using this
  rw [hpy] at hly
  have hin := F.fromI_mem hpn.1 hd
  rw [← hly] at hin
  have hdd := (F.sright1_nn (F.sright_iff.1 oy.s).2).2 _ (getD_mem 0 (show 0 < y.shape.length by omega))
  generalize F.ssize (y.shape.drop 1) = n at *
  generalize y.shape.getD 0 0 = d at *
  have hL : LIM = 4294967296 := rfl
  have hnn : n = n.toNat := by omega
  have hmn : x.nums.length * n.toNat ≤ 65536 := by
    have : ((x.nums.length * n.toNat : Nat) : Int) = (x.nums.length : Int) * n := by rw [Int.natCast_mul, ← hnn]
    omega
  simp only [and_true, inR64, idx_iff, toNat_cast]
  refine ⟨hne, by omega, (fun h => by cases h), fun _ => ⟨(fun h => by simp at h), fun _ => ⟨(fun h => by cases h), fun _ => ⟨(fun h => by cases h), fun _ => ?_⟩⟩⟩⟩
  refine ⟨⟨0, Nat.zero_le _, rfl, rfl⟩, fun i hi => ⟨fun hlt => ?_, fun hlt => ?_⟩⟩
  · have hlt : i < x.nums.length := by simpa using hlt
    have hb := hd _ (getD_mem 0 hlt)
    have hsn := take_snoc' 0 hlt
    have hfl := F.fromI_snoc n (x.nums.take i) (x.nums.getD i 0)
    rw [← hsn] at hfl
    have hle : (F.fromI n (x.nums.take i)).length = i * n.toNat := by rw [F.fromI_len, List.length_take, show min i x.nums.length = i by omega]
    have hle2 : i * n.toNat + n.toNat ≤ x.nums.length * n.toNat := by
      have := Nat.mul_le_mul_right n.toNat (show i + 1 ≤ x.nums.length by omega)
      rw [Nat.add_mul, Nat.one_mul] at this; exact this
    generalize x.nums.getD i 0 = v at *
    have m0 : 0 ≤ v * n := Int.mul_nonneg hb.1 hpn.1
    have m1 : v * n ≤ 65536 * 65536 := Int.mul_le_mul (by omega) hpn.2 hpn.1 (by omega)
    refine ⟨by omega, ⟨0, by omega, rfl, by simp⟩, fun k hk => ⟨fun hkt => ?_, fun hkt => ?_⟩⟩
    · have hkt : (k : Int) < n := by simpa using hkt
      refine ⟨by omega, by omega, ?_, by omega, k + 1, by omega, by omega, by simp, ?_⟩
      · simp only [List.length_append, List.length_map, List.length_range, List.length_cons, List.length_nil, hle]; omega
      · rw [List.range_succ, List.map_append, List.append_assoc]; rfl
    · have hkt : n.toNat = k := by simp at hkt; omega
      refine ⟨by omega, i + 1, by omega, by omega, by simp, ?_⟩
      rw [hfl, hkt]
  · have : x.nums.take i = x.nums := List.take_of_length_le (by simpa using hlt)
    rw [this]
    exact ⟨⟨hin, hgw⟩, rfl⟩⟩
theorem sat8 : Sat Try.prog 8 s8 := sat0 fine [(23, s23), (9, s9), (11, s11), (15, s15)] (sat23.app (sat9.app (sat11.app (sat15.app Sat.none)))) Try.func8 (by kernel_rfl) fun xs H e hsp _ _ => by
  have he : xs = [] ∧ e = eT := by
    unfold s8 at hsp
    split at hsp
    · cases hsp; exact ⟨rfl, rfl⟩
    · cases hsp
  obtain ⟨rfl, rfl⟩ := he
  refine ⟨noA, noA, (wp8 H).mpr ?_⟩
  have e1 : F.up (Arr.mk (1 : Int) [(↑[(30 : Int), (10 : Int), (20 : Int)].length : Int)] [(30 : Int), (10 : Int), (20 : Int)] []) = Arr.mk 1 [3] [1, 2, 0] [] := by kernel_rfl
  rw [e1]
  have a1 : F.aright (Arr.mk (1 : Int) [(↑[(30 : Int), (10 : Int), (20 : Int)].length : Int)] [(30 : Int), (10 : Int), (20 : Int)] []) = 0 := by kernel_rfl
  have a2 : F.aright (Arr.mk 1 [3] [1, 2, 0] []) = 0 := by kernel_rfl
  refine ⟨⟨a1, by simp [Arr.shape]⟩, ⟨a2, a1, rfl, by simp [Arr.shape], by kernel_rfl, by kernel_rfl, (fun h => by cases h), by simp [Arr.nums]⟩, by simp [inR64], by kernel_rfl, trivial⟩
end A
end Go.Proofs.Ythgnjimpakpkjaa
namespace Go.Proofs.Ythgnjimpakpkjaa
namespace A
namespace F
structure Ord {α : Type} (S : α → Prop) (c : α → α → Int) : Prop where
  anti : ∀ x y, S x → S y → (c x y ≤ 0 ↔ 0 ≤ c y x)
  trans : ∀ x y z, S x → S y → S z → c x y ≤ 0 → c y z ≤ 0 → c x z ≤ 0
section
variable {α β : Type} {S : α → Prop} {c : α → α → Int}
theorem Ord.zero (h : Ord S c) {x y : α} (hx : S x) (hy : S y) : c x y = 0 ↔ c y x = 0 := by
  have := h.anti x y hx hy
  have := h.anti y x hy hx
  omega
theorem Ord.refl (h : Ord S c) {x : α} (hx : S x) : c x x = 0 := by
  have := h.anti x x hx hx
  omega
theorem Ord.mono (h : Ord S c) {T : α → Prop} (hT : ∀ x, T x → S x) : Ord T c :=
  ⟨fun x y hx hy => h.anti x y (hT x hx) (hT y hy), fun x y z hx hy hz => h.trans x y z (hT x hx) (hT y hy) (hT z hz)⟩
theorem Ord.comap (h : Ord S c) (f : β → α) {T : β → Prop} (hT : ∀ x, T x → S (f x)) : Ord T fun x y => c (f x) (f y) :=
  ⟨fun x y hx hy => h.anti _ _ (hT x hx) (hT y hy), fun x y z hx hy hz => h.trans _ _ _ (hT x hx) (hT y hy) (hT z hz)⟩
theorem Ord.congr (h : Ord S c) {c' : α → α → Int} (he : ∀ x y, S x → S y → c' x y = c x y) : Ord S c' :=
  ⟨fun x y hx hy => by rw [he x y hx hy, he y x hy hx]; exact h.anti x y hx hy, fun x y z hx hy hz => by rw [he x y hx hy, he y z hy hz, he x z hx hz]; exact h.trans x y z hx hy hz⟩
theorem Ord.then (h : Ord S c) {c2 : α → α → Int} (h2 : ∀ w, S w → Ord (fun x => S x ∧ c w x = 0) c2) : Ord S fun x y => if c x y ≠ 0 then c x y else c2 x y := by
  refine ⟨fun x y hx hy => ?_, fun x y z hx hy hz => ?_⟩
  · have a1 := h.anti x y hx hy
    have a2 := h.zero hx hy
    by_cases h0 : c x y = 0
    · rw [if_neg (by simpa using h0), if_neg (by simpa using a2.1 h0)]
      exact (h2 x hx).anti x y ⟨hx, h.refl hx⟩ ⟨hy, h0⟩
    · rw [if_pos h0, if_pos (fun he => h0 (a2.2 he))]; exact a1
  · intro k1 k2
    have b1 : c x y ≤ 0 := by
      by_cases h0 : c x y = 0
      · omega
      · rw [if_pos h0] at k1; exact k1
    have b2 : c y z ≤ 0 := by
      by_cases h0 : c y z = 0
      · omega
      · rw [if_pos h0] at k2; exact k2
    have b3 := h.trans x y z hx hy hz b1 b2
    by_cases h0 : c x z = 0
    · rw [if_neg (by simpa using h0)]
      have hzx : c z x = 0 := (h.zero hx hz).1 h0
      have c1 : c x y = 0 := by
        have := h.trans y z x hy hz hx b2 (by omega)
        have := h.anti y x hy hx
        omega
      have c2' : c y z = 0 := by
        have := h.trans z x y hz hx hy (by omega) b1
        have := h.anti z y hz hy
        omega
      rw [if_neg (by simpa using c1)] at k1
      rw [if_neg (by simpa using c2')] at k2
      exact (h2 x hx).trans x y z ⟨hx, h.refl hx⟩ ⟨hy, c1⟩ ⟨hz, h0⟩ k1 k2
    · rw [if_pos h0]; exact b3
theorem lexL_cons (x y : α) (l m : List α) : lexL c (x :: l) (y :: m) = if c x y ≠ 0 then c x y else lexL c l m := rfl
theorem lexL_anti (h : Ord S c) : ∀ (l m : List α), (∀ x ∈ l, S x) → (∀ x ∈ m, S x) → (lexL c l m ≤ 0 ↔ 0 ≤ lexL c m l)
  | [], [], _, _ => by simp [lexL]
  | [], _ :: _, _, _ => by simp [lexL]
  | _ :: _, [], _, _ => by simp [lexL]
  | x :: l, y :: m, hl, hm => by
    rw [lexL_cons, lexL_cons]
    have hx := hl x (by simp)
    have hy := hm y (by simp)
    have a1 := h.anti x y hx hy
    have a2 := h.zero hx hy
    by_cases h0 : c x y = 0
    · rw [if_neg (by simpa using h0), if_neg (by simpa using a2.1 h0)]
      exact lexL_anti h l m (fun z hz => hl z (by simp [hz])) (fun z hz => hm z (by simp [hz]))
    · rw [if_pos h0, if_pos (fun he => h0 (a2.2 he))]; exact a1
theorem lexL_trans (h : Ord S c) : ∀ (l m n : List α), (∀ x ∈ l, S x) → (∀ x ∈ m, S x) → (∀ x ∈ n, S x) → lexL c l m ≤ 0 → lexL c m n ≤ 0 → lexL c l n ≤ 0
  | [], m, [], _, _, _, _, _ => by simp [lexL]
  | [], m, _ :: _, _, _, _, _, _ => by simp [lexL]
  | _ :: _, [], n, _, _, _, h1, _ => by simp [lexL] at h1
  | _ :: _, _ :: _, [], _, _, _, _, h2 => by simp [lexL] at h2
  | x :: l, y :: m, z :: n, hl, hm, hn, k1, k2 => by
    rw [lexL_cons] at k1 k2 ⊢
    have hx := hl x (by simp)
    have hy := hm y (by simp)
    have hz := hn z (by simp)
    have b1 : c x y ≤ 0 := by
      by_cases h0 : c x y = 0
      · omega
      · rw [if_pos h0] at k1; exact k1
    have b2 : c y z ≤ 0 := by
      by_cases h0 : c y z = 0
      · omega
      · rw [if_pos h0] at k2; exact k2
    have b3 := h.trans x y z hx hy hz b1 b2
    by_cases h0 : c x z = 0
    · rw [if_neg (by simpa using h0)]
      have hzx : c z x = 0 := (h.zero hx hz).1 h0
      have c1 : c x y = 0 := by
        have := h.trans y z x hy hz hx b2 (by omega)
        have := h.anti y x hy hx
        omega
      have c2' : c y z = 0 := by
        have := h.trans z x y hz hx hy (by omega) b1
        have := h.anti z y hz hy
        omega
      rw [if_neg (by simpa using c1)] at k1
      rw [if_neg (by simpa using c2')] at k2
      exact lexL_trans h l m n (fun w hw => hl w (by simp [hw])) (fun w hw => hm w (by simp [hw])) (fun w hw => hn w (by simp [hw])) k1 k2
    · rw [if_pos h0]; exact b3
theorem Ord.lex (h : Ord S c) : Ord (fun l => ∀ x ∈ l, S x) (lexL c) :=
  ⟨fun l m hl hm => lexL_anti h l m hl hm, fun l m n hl hm hn => lexL_trans h l m n hl hm hn⟩
theorem lexL_map {γ : Type} (f g : γ → α) : ∀ (l m : List γ), lexL c (l.map f) (m.map g) = lexL (fun x y => c (f x) (g y)) l m
  | [], [] => rfl
  | [], _ :: _ => rfl
  | _ :: _, [] => rfl
  | x :: l, y :: m => by
    simp only [List.map_cons, lexL]
    rw [lexL_map f g l m]
theorem ordI : Ord (fun _ => True) cmpI := by
  refine ⟨fun x y _ _ => ?_, fun x y z _ _ _ => ?_⟩
  · unfold cmpI; split <;> split <;> omega
  · unfold cmpI
    split <;> split <;> (try split) <;> (try split) <;> (try split) <;> (try split) <;> omega
/- sorting -/
theorem mergeL_sorted (h : Ord S c) : ∀ (a b : List α), (∀ x ∈ a, S x) → (∀ x ∈ b, S x) → a.Pairwise (fun x y => c x y ≤ 0) → b.Pairwise (fun x y => c x y ≤ 0) → (mergeL c a b).Pairwise (fun x y => c x y ≤ 0)
  | [], b, _, _, _, hb => by rw [mergeL_nil]; exact hb
  | x :: a, [], _, _, ha, _ => by rw [mergeL_nil2]; exact ha
  | x :: a, y :: b, sa, sb, ha, hb => by
    rw [mergeL_cons]
    have hx := sa x (by simp)
    have hy := sb y (by simp)
    have sa' : ∀ z ∈ a, S z := fun z hz => sa z (by simp [hz])
    have sb' : ∀ z ∈ b, S z := fun z hz => sb z (by simp [hz])
    rw [List.pairwise_cons] at ha hb
    split
    · rename_i hc
      refine List.pairwise_cons.2 ⟨fun z hz => ?_, mergeL_sorted h a (y :: b) sa' sb ha.2 (List.pairwise_cons.2 hb)⟩
      rcases List.mem_append.1 ((mergeL_perm c a (y :: b)).mem_iff.1 hz) with hz | hz
      · exact ha.1 z hz
      · rcases List.mem_cons.1 hz with rfl | hz
        · exact hc
        · exact h.trans x y z hx hy (sb' z hz) hc (hb.1 z hz)
    · rename_i hc
      have hc' : c y x ≤ 0 := (h.anti y x hy hx).2 (by omega)
      refine List.pairwise_cons.2 ⟨fun z hz => ?_, mergeL_sorted h (x :: a) b sa sb' (List.pairwise_cons.2 ha) hb.2⟩
      rcases List.mem_append.1 ((mergeL_perm c (x :: a) b).mem_iff.1 hz) with hz | hz
      · rcases List.mem_cons.1 hz with rfl | hz
        · exact hc'
        · exact h.trans y x z hy hx (sa' z hz) hc' (ha.1 z hz)
      · exact hb.1 z hz
  termination_by a b => a.length + b.length
theorem msort_sorted (h : Ord S c) : ∀ (n : Nat) (l : List α), l.length ≤ n → (∀ x ∈ l, S x) → (msort c n l).Pairwise (fun x y => c x y ≤ 0)
  | 0, l, hl, _ => by
    have : l = [] := List.length_eq_zero_iff.1 (by omega)
    subst this; exact List.Pairwise.nil
  | n + 1, l, hl, hs => by
    simp only [msort]
    split
    · match l, (by assumption : l.length < 2) with
      | [], _ => exact List.Pairwise.nil
      | [x], _ => exact List.pairwise_singleton _ _
    · rename_i h2
      refine mergeL_sorted h _ _ (fun x hx => hs x (List.mem_of_mem_take ((msort_perm c n _).mem_iff.1 hx))) (fun x hx => hs x (List.mem_of_mem_drop ((msort_perm c n _).mem_iff.1 hx))) (msort_sorted h n _ ?_ fun x hx => hs x (List.mem_of_mem_take hx)) (msort_sorted h n _ ?_ fun x hx => hs x (List.mem_of_mem_drop hx))
      · rw [List.length_take]; omega
      · rw [List.length_drop]; omega
theorem sort_sorted (h : Ord S c) (l : List α) (hs : ∀ x ∈ l, S x) : (sort c l).Pairwise (fun x y => c x y ≤ 0) := msort_sorted h _ l (Nat.le_refl _) hs
theorem mergeL_id : ∀ (a b : List α), (∀ x ∈ a, ∀ y ∈ b, c x y ≤ 0) → mergeL c a b = a ++ b
  | [], b, _ => by rw [mergeL_nil]; rfl
  | x :: a, [], _ => by rw [mergeL_nil2]; simp
  | x :: a, y :: b, h => by
    rw [mergeL_cons, if_pos (h x (by simp) y (by simp)), mergeL_id a (y :: b) (fun z hz => h z (by simp [hz]))]; rfl
theorem msort_id : ∀ (n : Nat) (l : List α), l.Pairwise (fun x y => c x y ≤ 0) → msort c n l = l
  | 0, l, _ => rfl
  | n + 1, l, h => by
    simp only [msort]
    split
    · rfl
    · have h' := h
      rw [← List.take_append_drop (l.length / 2) l, List.pairwise_append] at h'
      rw [msort_id n _ h'.1, msort_id n _ h'.2.1, mergeL_id _ _ h'.2.2, List.take_append_drop]
theorem sort_id (l : List α) (h : l.Pairwise (fun x y => c x y ≤ 0)) : sort c l = l := msort_id _ l h
end
/- arrays -/
def inV (K : Int) (r : Nat) (N : Nat) (q : Arr × List Int × Int) : Prop := q.1.kind = K ∧ q.2.1.length = r ∧ aright q.1 = 0 ∧ sz q.1 < N + 1 ∧ sright q.2.1 = true ∧ 0 ≤ q.2.2 ∧ q.2.2 + pr q.2.1 ≤ rsize q.1
def celX (p q : Arr × List Int × Int) : Int := celF cmp p.1 q.1 p.2.1 q.2.1 p.2.2 q.2.2
theorem kids_in {K : Int} {r N : Nat} {a : Arr} {d : Int} {s : List Int} {i : Int} (h : inV K (r + 1) N (a, d :: s, i)) : ∀ q ∈ (kids (ssize s) d i).map fun k => (a, s, k), inV K r N q := by
  obtain ⟨h1, h2, h3, h4, h5, h6, h7⟩ := h
  simp only at h1 h2 h3 h4 h5 h6 h7
  have hs : sright s = true := by have := sright_drop 1 h5; simpa using this
  have hp := sright_pr hs
  intro q hq
  obtain ⟨k, hk, rfl⟩ := List.mem_map.1 hq
  unfold kids at hk
  obtain ⟨m, hm, rfl⟩ := List.mem_map.1 hk
  have hm := List.mem_range.1 hm
  rw [ssize_pr hs]
  rw [pr] at h7
  have m0 : 0 ≤ (m : Int) * pr s := Int.mul_nonneg (by omega) hp.1
  have m1 : (m : Int) * pr s + pr s ≤ d * pr s := by
    have := Int.mul_le_mul_of_nonneg_right (show (m : Int) + 1 ≤ d by omega) hp.1
    rw [Int.add_mul, Int.one_mul] at this; exact this
  exact ⟨h1, by simpa using h2, h3, h4, hs, by simp only; omega, by simp only; omega⟩
theorem leaf_ord {K : Int} {N : Nat} (ih : Ord (fun a => aright a = 0 ∧ sz a < N) cmp) : Ord (inV K 0 N) celX := by
  have e : ∀ p q, inV K 0 N p → inV K 0 N q → celX p q = leaf cmp p.1 q.1 p.2.2 q.2.2 := by
    rintro ⟨a, s, i⟩ ⟨b, t, j⟩ ha hb
    have h1 : s = [] := List.length_eq_zero_iff.1 ha.2.1
    have h2 : t = [] := List.length_eq_zero_iff.1 hb.2.1
    subst h1 h2
    rfl
  by_cases hK : K = 3
  · have e2 : ∀ p q, inV K 0 N p → inV K 0 N q → celX p q = cmp (p.1.items.getD p.2.2.toNat (Arr.mk 0 [] [] [])) (q.1.items.getD q.2.2.toNat (Arr.mk 0 [] [] [])) := by
      intro p q hp hq
      rw [e p q hp hq]
      have lt : ∀ p, inV K 0 N p → p.2.2.toNat < p.1.items.length := by
        rintro ⟨a, s, i⟩ ⟨h1, h2, h3, h4, h5, h6, h7⟩
        simp only at h1 h2 h3 h4 h5 h6 h7
        have hs : s = [] := List.length_eq_zero_iff.1 h2
        subst hs
        rw [pr, rsize, if_neg (by omega), if_pos (by omega)] at h7
        simp only; omega
      unfold leaf
      rw [if_pos (by rw [hp.1, hK])]
      simp only [List.getD_eq_getElem?_getD, List.getElem?_eq_getElem (lt p hp), List.getElem?_eq_getElem (lt q hq), Option.getD_some]
    refine Ord.congr (Ord.comap ih (fun p : Arr × List Int × Int => p.1.items.getD p.2.2.toNat (Arr.mk 0 [] [] [])) ?_) e2
    rintro ⟨a, s, i⟩ ⟨h1, h2, h3, h4, h5, h6, h7⟩
    simp only at h1 h2 h3 h4 h5 h6 h7 ⊢
    have hs : s = [] := List.length_eq_zero_iff.1 h2
    subst hs
    rw [pr, rsize, if_neg (by omega), if_pos (by omega)] at h7
    have hm := getD_mem (Arr.mk 0 [] [] []) (show i.toNat < a.items.length by omega)
    have := sz_items hm
    exact ⟨(aright_ok h3).i _ hm, by omega⟩
  · refine Ord.congr (Ord.comap ordI (fun p : Arr × List Int × Int => p.1.nums.getD p.2.2.toNat 0) fun _ _ => trivial) fun p q hp hq => ?_
    rw [e p q hp hq]
    unfold leaf
    rw [if_neg (by rw [hp.1]; exact hK)]
theorem celX_ord {K : Int} {N : Nat} (ih : Ord (fun a => aright a = 0 ∧ sz a < N) cmp) : ∀ r, Ord (inV K r N) celX
  | 0 => leaf_ord ih
  | r + 1 => by
    refine Ord.congr (Ord.comap (celX_ord (K := K) ih r).lex (fun p : Arr × List Int × Int => (kids (ssize (p.2.1.drop 1)) (p.2.1.getD 0 0) p.2.2).map fun k => (p.1, p.2.1.drop 1, k)) ?_) ?_
    · rintro ⟨a, s, i⟩ h
      cases s with
      | nil => exact absurd h.2.1 (by simp)
      | cons d s => exact kids_in h
    · rintro ⟨a, s, i⟩ ⟨b, t, j⟩ ha hb
      cases s with
      | nil => exact absurd ha.2.1 (by simp)
      | cons d s =>
        cases t with
        | nil => exact absurd hb.2.1 (by simp)
        | cons e t =>
          rw [lexL_map]
          rfl
theorem cmp_ord : ∀ N, Ord (fun a => aright a = 0 ∧ sz a < N) cmp
  | 0 => ⟨fun x y hx => absurd hx.2 (by omega), fun x y z hx => absurd hx.2 (by omega)⟩
  | N + 1 => by
    have ih := cmp_ord N
    have hk : Ord (fun a => aright a = 0 ∧ sz a < N + 1) fun x y => if cmpI x.kind y.kind ≠ 0 then cmpI x.kind y.kind else cmpI x.shape.length y.shape.length :=
      Ord.then (Ord.comap ordI Arr.kind fun _ _ => trivial) fun w _ => Ord.comap ordI (fun a : Arr => (a.shape.length : Int)) fun _ _ => trivial
    have cz : ∀ a b : Int, cmpI a b = 0 ↔ a = b := fun a b => by unfold cmpI; split <;> (try split) <;> omega
    refine Ord.congr (Ord.then hk (c2 := fun x y => if contF cmp x y ≠ 0 then contF cmp x y else lexL cmpI x.shape y.shape) fun w hw => ?_) fun x y _ _ => ?_
    · refine Ord.then (S := fun x => (aright x = 0 ∧ sz x < N + 1) ∧ (if cmpI w.kind x.kind ≠ 0 then cmpI w.kind x.kind else cmpI w.shape.length x.shape.length) = 0) (c := contF cmp) ?_ fun _ _ => Ord.comap ordI.lex Arr.shape fun _ _ _ _ => trivial
      have key : ∀ x : Arr, (aright x = 0 ∧ sz x < N + 1) ∧ (if cmpI w.kind x.kind ≠ 0 then cmpI w.kind x.kind else cmpI w.shape.length x.shape.length) = 0 → x.kind = w.kind ∧ x.shape.length = w.shape.length ∧ inV w.kind w.shape.length N (x, x.shape, 0) := fun x hx => by
        obtain ⟨⟨v, z⟩, h0⟩ := hx
        have e1 : cmpI w.kind x.kind = 0 := by
          by_cases h : cmpI w.kind x.kind = 0
          · exact h
          · rw [if_pos h] at h0; exact h0
        rw [if_neg (by simpa using e1)] at h0
        have e1 := (cz _ _).1 e1
        have e2 := (cz _ _).1 h0
        have o := aright_ok v
        refine ⟨e1.symm, by omega, e1.symm, by simp only; omega, v, z, o.s, Int.le_refl _, ?_⟩
        simp only
        rw [o.n, ssize_pr o.s]; omega
      refine Ord.congr (Ord.comap (celX_ord (K := w.kind) ih w.shape.length) (fun x : Arr => (x, x.shape, (0 : Int))) fun x hx => (key x hx).2.2) fun x y hx hy => ?_
      have k1 := key x hx
      have k2 := key y hy
      unfold contF
      rw [if_neg (by rw [k1.1, k2.1, k1.2.1, k2.2.1]; simp)]
      rfl
    · rw [cmp_eq, cmpF]
      simp only [orL]
      by_cases h1 : cmpI x.kind y.kind = 0
      · by_cases h2 : cmpI (x.shape.length : Int) y.shape.length = 0
        · by_cases h3 : contF cmp x y = 0
          · by_cases h4 : lexL cmpI x.shape y.shape = 0 <;> simp [h1, h2, h3, h4]
          · simp [h1, h2, h3]
        · simp [h1, h2]
      · simp [h1]
theorem cmp_ord' : Ord (fun a => aright a = 0) cmp := by
  refine ⟨fun x y hx hy => ?_, fun x y z hx hy hz => ?_⟩
  · exact (cmp_ord (sz x + sz y + 1)).anti x y ⟨hx, by omega⟩ ⟨hy, by omega⟩
  · exact (cmp_ord (sz x + sz y + sz z + 1)).trans x y z ⟨hx, by omega⟩ ⟨hy, by omega⟩ ⟨hz, by omega⟩
theorem rowc_ord : Ord (fun p : Int × Arr => aright p.2 = 0) rowc :=
  Ord.congr (Ord.comap cmp_ord' (fun p : Int × Arr => p.2) fun _ h => h) fun x y hx hy => by
    unfold rowc compare
    rw [if_neg (by simp [hx, hy])]
end F
end A
end Go.Proofs.Ythgnjimpakpkjaa
namespace Go.Proofs.Ythgnjimpakpkjaa
namespace A
namespace F
theorem rprod_ok : ∀ (s : List Int) (p : Int), 1 ≤ p → p ≤ 65536 → nonneg s → rprod p s ≤ 65536 → sright1 p s = true ∧ (hz s = false → rprod p s = sprod1 p s)
  | [], p, _, _, _, _ => ⟨rfl, fun _ => rfl⟩
  | d :: s, p, h1, h2, hn, h => by
    rw [rprod_cons] at h
    rw [rprod_cons, sright1_cons, hz_cons, sprod1_cons]
    have hd := hn d (by simp)
    have hn' : nonneg s := fun x hx => hn x (by simp [hx])
    by_cases hd' : d > 65536
    · rw [if_pos hd'] at h; omega
    rw [if_neg hd'] at h ⊢
    by_cases h0 : d = 0
    · have hng : ¬ d > 0 := by omega
      rw [if_neg (by omega), if_pos h0]
      rw [if_neg hng, if_neg (by omega)] at h
      refine ⟨(rprod_ok s p h1 h2 hn' h).1, fun hz => ?_⟩
      simp [h0] at hz
    · have hd1 : d > 0 := by omega
      have hq1 : 1 ≤ p * d := by have := Int.mul_le_mul h1 (show 1 ≤ d by omega) (by omega) (by omega); omega
      rw [if_pos hd1] at h ⊢
      by_cases hp : p * d > 65536
      · rw [if_pos hp] at h; omega
      rw [if_neg hp] at h
      rw [if_neg (by omega), if_neg h0, if_neg hp, if_neg hp]
      have ih := rprod_ok s _ hq1 (by omega) hn' h
      refine ⟨ih.1, fun hz => ih.2 ?_⟩
      simp [h0] at hz
      exact hz
theorem dims_ok {s : List Int} (h : dims s = 0) : s.length ≤ 8 ∧ hneg s = false ∧ sright s = true ∧ count s = ssize s := by
  unfold dims at h
  split at h
  · cases h
  rename_i h8
  split at h
  · cases h
  rename_i hn
  split at h
  · cases h
  rename_i hr
  have hn : hneg s = false := by simpa using hn
  have ih := rprod_ok s 1 (by decide) (by decide) (hneg_nn.1 hn) (by omega)
  have hs : sright s = true := sright_iff.2 ⟨by omega, ih.1⟩
  refine ⟨by omega, hn, hs, ?_⟩
  unfold count ssize sprod
  rw [if_pos hs]
  by_cases hz : hz s = true
  · rw [if_pos hz, if_pos hz]
  · rw [if_neg hz, if_neg hz, ih.2 (by simpa using hz)]
def ws (l : List Arr) : Int := (l.map weight).sum
theorem ws_cons (x : Arr) (l : List Arr) : ws (x :: l) = weight x + ws l := by simp [ws]
theorem ws_nn : ∀ l, 0 ≤ ws l
  | [] => by simp [ws]
  | x :: l => by rw [ws_cons]; have := weight_nn x; have := ws_nn l; omega
theorem weightL_ws : ∀ (l : List Arr) (n : Int), 0 ≤ n → min (weightL 3 n l) 262145 = min (n + ws l) 262145
  | [], n, _ => by simp [weightL, ws]
  | x :: l, n, h => by
    rw [weightL_cons, ws_cons]
    have h1 := weight_nn x
    have h2 := ws_nn l
    by_cases hn : n ≤ 262144
    · rw [if_pos ⟨rfl, hn⟩, weightL_ws l _ (by omega)]; congr 1; omega
    · rw [if_neg (by omega)]; omega
theorem weightL_k {k : Int} (hk : k ≠ 3) : ∀ (l : List Arr) (n : Int), weightL k n l = n
  | [], n => by simp [weightL]
  | x :: l, n => by rw [weightL_cons, if_neg (fun h => hk h.1)]
theorem weight_val (y : Arr) : weight y = if y.kind = 3 then min ((y.items.length : Int) + ws y.items) 262145 else min (rsize y) 262145 := by
  rw [weight_eq]
  split
  · rename_i h
    have hr : rsize y = y.items.length := by unfold rsize; rw [if_neg (by omega), if_pos h]
    rw [hr, h, weightL_ws _ _ (by omega)]
  · rename_i h
    rw [weightL_k h]
mutual
theorem aweight_weight : ∀ y : Arr, aweight y = weight y
  | .mk k s n it => by
    rw [aweight_eq, weight_val]
    by_cases h : (Arr.mk k s n it).kind = 3
    · have hr : rsize (.mk k s n it) = it.length := by unfold rsize; rw [if_neg (by omega), if_pos h]; rfl
      rw [if_neg (by simpa using h), if_pos h, hr]
      exact aweightL_ws it _ (by omega)
    · rw [if_pos h, if_neg h]
theorem aweightL_ws : ∀ (l : List Arr) (n : Int), 0 ≤ n → aweightL (min n 262145) l = min (n + ws l) 262145
  | [], n, _ => by simp [aweightL, ws]
  | x :: l, n, h => by
    rw [aweightL_cons, ws_cons]
    have h1 := weight_nn x
    have h2 := ws_nn l
    by_cases hn : n ≤ 262144
    · rw [if_neg (by omega), aweight_weight x, show min n 262145 = n by omega, aweightL_ws l _ (by omega)]; congr 1; omega
    · rw [if_pos (by omega)]; omega
end
theorem rcheck_visit1 (y : Arr) (h : (rcheck y).1 = 0) (hL : ∀ (w d : Int), 0 ≤ w → rcheckL 0 y.items = some d → visitL 0 (min w 262145) y.items = some (d, min (w + ws y.items) 262145)) : visit y = (0, (rcheck y).2, weight y) := by
  rw [rcheck_eq] at h ⊢
  rw [visit_eq]
  by_cases hk : y.kind < 1 ∨ y.kind > 3
  · rw [if_pos hk] at h; cases h
  rw [if_neg hk] at h ⊢
  by_cases hd : dims y.shape ≠ 0
  · rw [if_pos hd] at h; exact absurd h hd
  rw [if_neg hd] at h ⊢
  have hd := Decidable.not_not.1 hd
  obtain ⟨d1, d2, d3, d4⟩ := dims_ok hd
  by_cases hc : rsize y ≠ count y.shape ∨ (if y.kind = 3 then (y.nums.length : Int) else y.items.length) > 0
  · rw [if_pos hc] at h; cases h
  rw [if_neg hc] at h ⊢
  by_cases hb : badL y.kind y.nums = true
  · rw [if_pos hb] at h; cases h
  rw [if_neg hb] at h ⊢
  simp only [not_or, Decidable.not_not, ne_eq] at hc
  have hf : form y = 0 := by
    unfold form
    rw [if_neg (by omega), if_neg (by omega), if_neg (by rw [d2]; simp), if_neg (by rw [d3]; simp), if_neg]
    simp only [not_or, Decidable.not_not, ne_eq]
    refine ⟨by rw [hc.1, d4], ?_⟩
    have := hc.2
    split at this <;> rename_i h3
    · rw [if_pos h3]; omega
    · rw [if_neg h3]; omega
  rw [if_neg (by simpa using hf), if_neg hb]
  cases hr : rcheckL 0 y.items with
  | none => rw [hr] at h; cases h
  | some d =>
    rw [hr] at h
    simp only at h ⊢
    have hv := hL ((y.nums.length : Int) + y.items.length) d (by omega) hr
    have hw : weight y = min ((y.nums.length : Int) + y.items.length + ws y.items) 262145 := by
      have h2 := hc.2
      rw [weight_val]
      split at h2
      · rename_i h3; rw [if_pos h3]; congr 2; omega
      · rename_i h3
        rw [if_neg h3]
        have hi : y.items = [] := List.length_eq_zero_iff.1 (by omega)
        have hr : rsize y = y.nums.length := by unfold rsize; rw [if_pos (by omega)]
        rw [hr, hi]; simp [ws]
    by_cases hx : d > 16 ∨ weight y > 262144
    · rw [if_pos hx] at h; cases h
    rw [if_neg hx]
    have hlen : (y.nums.length : Int) + y.items.length ≤ 262145 := by have := ws_nn y.items; omega
    rw [show min ((y.nums.length : Int) + y.items.length) 262145 = (y.nums.length : Int) + y.items.length by omega] at hv
    rw [hv]
    simp only
    rw [← hw, if_neg hx]
mutual
theorem rcheck_visit : ∀ y : Arr, (rcheck y).1 = 0 → visit y = (0, (rcheck y).2, weight y)
  | .mk k s n it, h => rcheck_visit1 (.mk k s n it) h fun w d hw hr => rcheck_visitL it 0 w d hw hr
theorem rcheck_visitL : ∀ (l : List Arr) (d w d' : Int), 0 ≤ w → rcheckL d l = some d' → visitL d (min w 262145) l = some (d', min (w + ws l) 262145)
  | [], d, w, d', _, h => by
    simp [rcheckL] at h
    subst h
    simp [visitL, ws]
  | x :: l, d, w, d', hw, h => by
    rw [rcheckL_cons] at h
    rw [visitL_cons, ws_cons]
    by_cases hx : (rcheck x).1 = 0
    · rw [if_neg (by simpa using hx)] at h
      have e := rcheck_visit x hx
      rw [e]
      simp only
      rw [if_neg (by simp)]
      have h1 := weight_nn x
      have h2 := ws_nn l
      have ih := rcheck_visitL l _ (w + weight x) d' (by omega) h
      rw [show min (min w 262145 + weight x) 262145 = min (w + weight x) 262145 by omega, ih]
      congr 2; omega
    · rw [if_pos hx] at h; cases h
end
theorem few_ok {y : Arr} (h : few y 100 = true) : aright y = 0 ∧ weight y ≤ 100 := by
  unfold few at h
  simp only [Bool.and_eq_true, decide_eq_true_eq] at h
  exact ⟨by unfold aright; rw [rcheck_visit y h.2], h.1⟩
end F
end A
end Go.Proofs.Ythgnjimpakpkjaa
namespace Go.Proofs.Ythgnjimpakpkjaa
namespace A
namespace F
/- pieces of lists -/
def Sub {α : Type} (l' l : List α) : Prop := ∃ m, (l' ++ m).Perm l
theorem Sub.len {α : Type} {l' l : List α} (h : Sub l' l) : l'.length ≤ l.length := by
  obtain ⟨m, h⟩ := h
  rw [← h.length_eq, List.length_append]; omega
theorem Sub.mem {α : Type} {l' l : List α} (h : Sub l' l) {x : α} (hx : x ∈ l') : x ∈ l := by
  obtain ⟨m, h⟩ := h
  exact h.mem_iff.1 (List.mem_append_left _ hx)
theorem Sub.perm {α : Type} {l' l : List α} (h : l'.Perm l) : Sub l' l := ⟨[], by simpa using h⟩
theorem perm_sum {α : Type} (g : α → Int) {l l' : List α} (h : l.Perm l') : (l.map g).sum = (l'.map g).sum := by
  induction h with
  | nil => rfl
  | cons x _ ih => simp [ih]
  | swap x y l => simp; omega
  | trans _ _ ih1 ih2 => rw [ih1, ih2]
def vs (l : List Arr) : Int := (l.map fun x => (visit x).2.2).sum
theorem vs_nn : ∀ l, 0 ≤ vs l
  | [] => by simp [vs]
  | x :: l => by
    have := visit_w x
    have := vs_nn l
    simp only [vs, List.map_cons, List.sum_cons] at *
    omega
theorem vs_cons (x : Arr) (l : List Arr) : vs (x :: l) = (visit x).2.2 + vs l := by simp [vs]
theorem Sub.vs {l' l : List Arr} (h : Sub l' l) : F.vs l' ≤ F.vs l := by
  obtain ⟨m, h⟩ := h
  have e : F.vs (l' ++ m) = F.vs l := perm_sum _ h
  have e2 : F.vs (l' ++ m) = F.vs l' + F.vs m := by simp [F.vs]
  have := vs_nn m
  omega
theorem visitL_val : ∀ (l : List Arr) (d w : Int), 0 ≤ w → w ≤ 262145 → (∀ x ∈ l, aright x = 0) → ∃ d', visitL d w l = some (d', min (w + vs l) 262145) ∧ (d' ≤ 16 ↔ d ≤ 16 ∧ ∀ x ∈ l, (visit x).2.1 ≤ 15)
  | [], d, w, h0, h1, _ => ⟨d, by simp only [visitL, vs, List.map_nil, List.sum_nil]; congr 2; omega, by simp⟩
  | x :: l, d, w, h0, h1, h => by
    rw [visitL_cons, vs_cons, if_neg (by have := h x (by simp); simpa [aright] using this)]
    have hx := visit_w x
    have hv := vs_nn l
    obtain ⟨d', e, hd⟩ := visitL_val l (max d ((visit x).2.1 + 1)) (min (w + (visit x).2.2) 262145) (by omega) (by omega) fun z hz => h z (by simp [hz])
    refine ⟨d', by rw [e]; congr 2; omega, ?_⟩
    rw [hd]
    constructor
    · rintro ⟨a, b⟩
      refine ⟨by omega, fun z hz => ?_⟩
      rcases List.mem_cons.1 hz with rfl | hz
      · omega
      · exact b z hz
    · rintro ⟨a, b⟩
      have := b x (by simp)
      exact ⟨by omega, fun z hz => b z (by simp [hz])⟩
theorem OK.v' {y : Arr} (h : OK y) : (∀ x ∈ y.items, (visit x).2.1 ≤ 15) ∧ (y.nums.length : Int) + y.items.length + vs y.items ≤ 262144 := by
  obtain ⟨q, hq, h1, h2⟩ := h.v
  have hl := h.len
  have hp := sright_pr h.s
  have hz := h.z
  have hb : (y.nums.length : Int) + y.items.length ≤ 65536 := by
    split at hl <;> rename_i h3
    · rw [if_pos h3] at hz; rw [hz]; simp; omega
    · rw [if_neg h3] at hz; rw [hz]; simp; omega
  obtain ⟨d', e, hd⟩ := visitL_val y.items 0 ((y.nums.length : Int) + y.items.length) (by omega) (by omega) h.i
  rw [e] at hq
  cases hq
  simp only at h1 h2
  exact ⟨(hd.1 h1).2, by omega⟩
theorem mkOK {y : Arr} (hk : y.kind = 1 ∨ y.kind = 2 ∨ y.kind = 3) (hs : sright y.shape = true) (hn : (if y.kind = 3 then (y.items.length : Int) else y.nums.length) = pr y.shape) (hz : if y.kind = 3 then y.nums = [] else y.items = [])
    (hb : badL y.kind y.nums = false) (hi : ∀ x, x ∈ y.items → aright x = 0) (hv : (∀ x ∈ y.items, (visit x).2.1 ≤ 15) ∧ (y.nums.length : Int) + y.items.length + vs y.items ≤ 262144) : OK y := by
  refine ⟨hk, hs, ?_, hz, hb, hi, ?_⟩
  · rw [ssize_pr hs, ← hn]
    unfold rsize
    rcases hk with hk | hk | hk <;> simp [hk]
  · have := vs_nn y.items
    obtain ⟨d', e, hd⟩ := visitL_val y.items 0 ((y.nums.length : Int) + y.items.length) (by omega) (by omega) hi
    exact ⟨_, e, hd.2 ⟨by omega, hv.1⟩, by simp only; omega⟩
theorem OK.piece {y : Arr} (h : OK y) {s : List Int} {n : List Int} {it : List Arr} (hs : sright s = true) (hn : Sub n y.nums) (hi : Sub it y.items) (hl : (if y.kind = 3 then (it.length : Int) else n.length) = pr s) : OK (.mk y.kind s n it) := by
  refine mkOK h.k hs hl ?_ ?_ (fun x hx => h.i x (hi.mem hx)) ⟨fun x hx => h.v'.1 x (hi.mem hx), ?_⟩
  · have hz := h.z
    show if y.kind = 3 then n = [] else it = []
    split at hz <;> rename_i h3
    · rw [if_pos h3]; have := hn.len; rw [hz] at this; exact List.length_eq_zero_iff.1 (by simpa using this)
    · rw [if_neg h3]; have := hi.len; rw [hz] at this; exact List.length_eq_zero_iff.1 (by simpa using this)
  · have hb := h.b
    simp only [badL, List.any_eq_false] at hb ⊢
    exact fun x hx => hb x (hn.mem hx)
  · have := h.v'.2
    have := hn.len
    have := hi.len
    have := hi.vs
    simp only [Arr.nums, Arr.items]
    omega
/- chunks -/
def chunk {α : Type} (l : List α) (k i : Nat) : List α := (l.take (i * k + k)).drop (i * k)
theorem chunk_nil {α : Type} (k i : Nat) : chunk ([] : List α) k i = [] := by simp [chunk]
theorem chunk_take {α : Type} (l : List α) (k i : Nat) : l.take (i * k) ++ chunk l k i = l.take (i * k + k) := by
  unfold chunk
  have h := List.take_append_drop (i * k) (l.take (i * k + k))
  rw [List.take_take, show min (i * k) (i * k + k) = i * k by omega] at h
  exact h
theorem chunk_sub {α : Type} (l : List α) (k i : Nat) : Sub (chunk l k i) l := by
  refine ⟨l.take (i * k) ++ l.drop (i * k + k), ?_⟩
  have h := List.take_append_drop (i * k + k) l
  rw [← chunk_take, List.append_assoc] at h
  conv => rhs; rw [← h]
  exact List.perm_append_comm_assoc ..
theorem chunk_len {α : Type} {l : List α} {k i : Nat} (h : i * k + k ≤ l.length) : (chunk l k i).length = k := by
  unfold chunk
  rw [List.length_drop, List.length_take]; omega
theorem chunk_all {α : Type} (l : List α) (k : Nat) : ∀ m, ((List.range m).map (chunk l k)).flatten = l.take (m * k)
  | 0 => by simp
  | m + 1 => by
    rw [List.range_succ, List.map_append, List.flatten_append, chunk_all l k m]
    simp only [List.map_cons, List.map_nil, List.flatten_cons, List.flatten_nil, List.append_nil]
    rw [chunk_take, Nat.add_mul, Nat.one_mul]
theorem chunk_get {α : Type} {l : List α} {k i : Nat} (d : α) (h : i * k + k ≤ l.length) : (List.range k).map (fun j => l.getD (i * k + j) d) = chunk l k i := by
  refine List.ext_getElem (by rw [chunk_len h]; simp) fun j h1 h2 => ?_
  have hj : j < k := by simpa using h1
  simp only [List.getElem_map, List.getElem_range, chunk, List.getElem_drop, List.getElem_take]
  rw [List.getD_eq_getElem?_getD, List.getElem?_eq_getElem (by omega)]; rfl
theorem chunk_flat {α : Type} {k : Nat} : ∀ (R : List (List α)) (i : Nat), (∀ r ∈ R, r.length = k) → i < R.length → chunk R.flatten k i = R.getD i []
  | [], i, _, h => by simp at h
  | r :: R, 0, h, _ => by
    have := h r (by simp)
    simp only [chunk, List.flatten_cons, Nat.zero_mul, Nat.zero_add, List.drop_zero, List.getD_cons_zero]
    rw [← this, List.take_append_of_le_length (Nat.le_refl _), List.take_length]
  | r :: R, i + 1, h, hi => by
    have hr := h r (by simp)
    have ih := chunk_flat R i (fun z hz => h z (by simp [hz])) (by simpa using hi)
    rw [List.getD_cons_succ, ← ih]
    unfold chunk
    rw [List.flatten_cons, show (i + 1) * k + k = r.length + (i * k + k) by rw [Nat.add_mul]; omega, show (i + 1) * k = r.length + i * k by rw [Nat.add_mul]; omega, List.take_length_add_append, List.drop_length_add_append]
theorem flat_nil {α : Type} : ∀ (R : List (List α)), (∀ r ∈ R, r = []) → R.flatten = []
  | [], _ => rfl
  | r :: R, h => by rw [List.flatten_cons, h r (by simp), flat_nil R fun z hz => h z (by simp [hz])]; rfl
theorem slice_chunk {α : Type} (l : List α) (k i : Nat) : sliceL l ((i : Int) * (k : Int)) ((i : Int) * (k : Int) + (k : Int)) = chunk l k i := by
  unfold sliceL chunk
  have e1 : ((i : Int) * (k : Int)).toNat = i * k := by rw [← Int.natCast_mul, Int.toNat_natCast]
  have e2 : ((i : Int) * (k : Int) + (k : Int)).toNat = i * k + k := by rw [← Int.natCast_mul, ← Int.natCast_add, Int.toNat_natCast]
  rw [e1, e2]
/-- a row -/
def C (y : Arr) (t : List Int) (k i : Nat) : Arr := .mk y.kind t (chunk y.nums k i) (chunk y.items k i)
theorem part_C {y : Arr} (h : OK y) (t : List Int) (k i : Nat) : part y ((i : Int) * (k : Int)) (k : Int) t = C y t k i := by
  unfold part C
  have hz := h.z
  rw [slice_chunk, slice_chunk]
  split at hz <;> rename_i h3
  · rw [if_pos h3, hz, chunk_nil]
  · rw [if_neg h3, hz, chunk_nil]
/-- what is known of rows -/
structure RowsOf (y : Arr) (d : Int) (t : List Int) (m k : Nat) : Prop where
  ok : OK y
  sh : y.shape = d :: t
  dm : d = (m : Int)
  nk : ssize t = (k : Int)
  st : sright t = true
  mb : m ≤ 65536
theorem rowsOf {y : Arr} (h : aright y = 0) {d : Int} {t : List Int} (hs : y.shape = d :: t) : RowsOf y d t d.toNat (ssize t).toNat := by
  have ok := aright_ok h
  have hst : sright t = true := by
    have := sright_drop 1 ok.s
    rw [hs] at this; simpa using this
  have hb := ssize_bd hst
  have hn := (sright1_nn (sright_iff.1 ok.s).2).1 d (by rw [hs]; simp)
  have hn2 := (sright1_nn (sright_iff.1 ok.s).2).2 d (by rw [hs]; simp)
  exact ⟨ok, hs, by omega, by omega, hst, by omega⟩
section
variable {y : Arr} {d : Int} {t : List Int} {m k : Nat}
theorem RowsOf.len (h : RowsOf y d t m k) : (if y.kind = 3 then y.items.length else y.nums.length) = m * k := by
  have := h.ok.len
  rw [h.sh, pr, ← ssize_pr h.st, h.nk, h.dm, ← Int.natCast_mul] at this
  split at this <;> rename_i h3
  · rw [if_pos h3]; omega
  · rw [if_neg h3]; omega
theorem mul_le {m k i : Nat} (h : i < m) : i * k + k ≤ m * k := by
  have := Nat.mul_le_mul_right k (show i + 1 ≤ m by omega)
  rw [Nat.add_mul, Nat.one_mul] at this; exact this
theorem RowsOf.okC (h : RowsOf y d t m k) {i : Nat} (hi : i < m) : OK (C y t k i) := by
  refine h.ok.piece h.st (chunk_sub _ _ _) (chunk_sub _ _ _) ?_
  have hl := h.len
  have := mul_le (k := k) hi
  rw [← ssize_pr h.st, h.nk]
  split at hl <;> rename_i h3
  · rw [if_pos h3, chunk_len (by omega)]
  · rw [if_neg h3, chunk_len (by omega)]
theorem rank_last (n : Nat) (h : 0 < n) : ((n : Int) - rank ((n : Int) - 1) n).toNat = 1 := by
  unfold rank
  simp only
  rw [if_neg (by omega)]
  omega
theorem RowsOf.ssd (h : RowsOf y d t m k) : sright [d] = true ∧ ssize [d] = d := by
  have h1 := sright_take 1 h.ok.s
  rw [h.sh] at h1
  have h1 : sright [d] = true := by simpa using h1
  exact ⟨h1, by rw [ssize_pr h1]; simp [pr]⟩
theorem RowsOf.cells (h : RowsOf y d t m k) : F.cells y (y.shape.length - 1) = (List.range m).map (C y t k) := by
  unfold F.cells
  rw [if_neg (by rw [ok_aright h.ok]; simp)]
  simp only
  have hl : 0 < y.shape.length := by rw [h.sh]; simp
  rw [rank_last _ hl, h.sh]
  simp only [List.take_succ_cons, List.take_zero, List.drop_succ_cons, List.drop_zero]
  rw [h.ssd.2, h.nk, h.dm, Int.toNat_natCast]
  exact List.map_congr_left fun i _ => part_C h.ok t k i
theorem RowsOf.rows (h : RowsOf y d t m k) : F.rows y = (List.range m).map fun (i : Nat) => ((i : Int), C y t k i) := by
  unfold F.rows
  rw [h.cells]
  refine List.ext_getElem (by simp) fun j h1 h2 => ?_
  simp
theorem RowsOf.mem (h : RowsOf y d t m k) {r : Int × Arr} (hr : r ∈ F.sort rowc (F.rows y)) : ∃ i, i < m ∧ r = ((i : Int), C y t k i) := by
  rw [sort_mem, h.rows] at hr
  obtain ⟨i, hi, rfl⟩ := List.mem_map.1 hr
  exact ⟨i, List.mem_range.1 hi, rfl⟩
theorem RowsOf.slen (h : RowsOf y d t m k) : (F.sort rowc (F.rows y)).length = m := by rw [sort_length, h.rows]; simp
theorem RowsOf.pair (h : RowsOf y d t m k) : (F.sort rowc (F.rows y)).Pairwise (fun x y => rowc x y ≤ 0) := by
  refine sort_sorted rowc_ord _ fun r hr => ?_
  obtain ⟨i, hi, rfl⟩ := h.mem ((sort_mem rowc _).2 hr)
  exact ok_aright (h.okC hi)
theorem RowsOf.numsP (h : RowsOf y d t m k) : ((F.sort rowc (F.rows y)).map fun r => r.2.nums).flatten.Perm y.nums := by
  refine (((sort_perm rowc _).map fun r : Int × Arr => r.2.nums).flatten).trans ?_
  rw [h.rows, List.map_map]
  have e : ((fun r : Int × Arr => r.2.nums) ∘ fun (i : Nat) => ((i : Int), C y t k i)) = chunk y.nums k := rfl
  rw [e, chunk_all]
  have hl := h.len
  have hz := h.ok.z
  split at hl <;> rename_i h3
  · rw [if_pos h3] at hz; rw [hz]; simp
  · rw [← hl, List.take_length]
theorem RowsOf.itemsP (h : RowsOf y d t m k) : ((F.sort rowc (F.rows y)).map fun r => r.2.items).flatten.Perm y.items := by
  refine (((sort_perm rowc _).map fun r : Int × Arr => r.2.items).flatten).trans ?_
  rw [h.rows, List.map_map]
  have e : ((fun r : Int × Arr => r.2.items) ∘ fun (i : Nat) => ((i : Int), C y t k i)) = chunk y.items k := rfl
  rw [e, chunk_all]
  have hl := h.len
  have hz := h.ok.z
  split at hl <;> rename_i h3
  · rw [← hl, List.take_length]
  · rw [if_neg h3] at hz; rw [hz]; simp
theorem RowsOf.okS (h : RowsOf y d t m k) : OK (sorted y) := by
  refine h.ok.piece h.ok.s (Sub.perm h.numsP) (Sub.perm h.itemsP) ?_
  rw [← h.ok.len, h.numsP.length_eq, h.itemsP.length_eq]
theorem RowsOf.ofS (h : RowsOf y d t m k) : RowsOf (sorted y) d t m k := ⟨h.okS, h.sh, h.dm, h.nk, h.st, h.mb⟩
theorem RowsOf.CS (h : RowsOf y d t m k) {i : Nat} (hi : i < m) : C (sorted y) t k i = ((F.sort rowc (F.rows y)).getD i (0, Arr.mk 0 [] [] [])).2 := by
  have hR := h.slen
  have hmem := h.mem (getD_mem (0, Arr.mk 0 [] [] []) (show i < (F.sort rowc (F.rows y)).length by omega))
  have hall : ∀ r, r ∈ F.sort rowc (F.rows y) → ∃ i, i < m ∧ r = ((i : Int), C y t k i) := fun r hr => h.mem hr
  have hs : sorted y = .mk y.kind y.shape ((F.sort rowc (F.rows y)).map fun r => r.2.nums).flatten ((F.sort rowc (F.rows y)).map fun r => r.2.items).flatten := rfl
  have hl := h.len
  have hz := h.ok.z
  generalize F.sort rowc (F.rows y) = R at *
  have key1 : chunk (R.map fun r => r.2.nums).flatten k i = (R.getD i (0, Arr.mk 0 [] [] [])).2.nums := by
    split at hl <;> rename_i h3
    · rw [if_pos h3] at hz
      have hn : ∀ r ∈ R, r.2.nums = [] := fun r hr => by
        obtain ⟨j, _, rfl⟩ := hall r hr
        show chunk y.nums k j = []
        rw [hz, chunk_nil]
      rw [flat_nil _ (fun z hz => by obtain ⟨r, hr, rfl⟩ := List.mem_map.1 hz; exact hn r hr), chunk_nil, hn _ (getD_mem _ (by omega))]
    · rw [chunk_flat _ _ (fun z hz => by
        obtain ⟨r, hr, rfl⟩ := List.mem_map.1 hz
        obtain ⟨j, hj, rfl⟩ := hall r hr
        have := mul_le (k := k) hj
        exact chunk_len (by omega)) (by simpa using (by omega : i < R.length))]
      simp [List.getD_eq_getElem?_getD, List.getElem?_eq_getElem (show i < R.length by omega)]
  have key2 : chunk (R.map fun r => r.2.items).flatten k i = (R.getD i (0, Arr.mk 0 [] [] [])).2.items := by
    split at hl <;> rename_i h3
    · rw [chunk_flat _ _ (fun z hz => by
        obtain ⟨r, hr, rfl⟩ := List.mem_map.1 hz
        obtain ⟨j, hj, rfl⟩ := hall r hr
        have := mul_le (k := k) hj
        exact chunk_len (by omega)) (by simpa using (by omega : i < R.length))]
      simp [List.getD_eq_getElem?_getD, List.getElem?_eq_getElem (show i < R.length by omega)]
    · rw [if_neg h3] at hz
      have hn : ∀ r ∈ R, r.2.items = [] := fun r hr => by
        obtain ⟨j, _, rfl⟩ := hall r hr
        show chunk y.items k j = []
        rw [hz, chunk_nil]
      rw [flat_nil _ (fun z hz => by obtain ⟨r, hr, rfl⟩ := List.mem_map.1 hz; exact hn r hr), chunk_nil, hn _ (getD_mem _ (by omega))]
  have e1 : C (sorted y) t k i = .mk y.kind t (R.getD i (0, Arr.mk 0 [] [] [])).2.nums (R.getD i (0, Arr.mk 0 [] [] [])).2.items := by
    rw [← key1, ← key2, hs]; rfl
  obtain ⟨j, _, hj⟩ := hmem
  rw [e1, hj]
  rfl
theorem RowsOf.rowsS (h : RowsOf y d t m k) : (F.rows (sorted y)).Pairwise (fun x y => rowc x y ≤ 0) := by
  rw [h.ofS.rows, List.pairwise_map]
  have hp := List.pairwise_iff_getElem.1 h.pair
  have hR := h.slen
  refine List.pairwise_iff_getElem.2 fun i j hi hj hij => ?_
  have hi : i < m := by simpa using hi
  have hj : j < m := by simpa using hj
  have := hp i j (by omega) (by omega) hij
  simp only [List.getElem_range, rowc, h.CS hi, h.CS hj]
  simp only [List.getD_eq_getElem?_getD, List.getElem?_eq_getElem (show i < (F.sort rowc (F.rows y)).length by omega), List.getElem?_eq_getElem (show j < (F.sort rowc (F.rows y)).length by omega), Option.getD_some]
  exact this
theorem RowsOf.upS (h : RowsOf y d t m k) : up (sorted y) = .mk 1 [d] ((List.range m).map fun (i : Nat) => (i : Int)) [] := by
  have e : up (sorted y) = numbers (F.sort rowc (F.rows (sorted y))) := rfl
  rw [e, sort_id _ h.rowsS, h.ofS.rows, numbers, List.map_map, h.dm]
  simp
theorem RowsOf.up (h : RowsOf y d t m k) : up y = .mk 1 [d] ((F.sort rowc (F.rows y)).map (·.1)) [] := by
  have e : F.up y = numbers (F.sort rowc (F.rows y)) := rfl
  rw [e, numbers, h.slen, h.dm]
theorem RowsOf.upm (h : RowsOf y d t m k) : ∀ i ∈ (F.sort rowc (F.rows y)).map (·.1), 0 ≤ i ∧ i < d := by
  intro i hi
  obtain ⟨r, hr, rfl⟩ := List.mem_map.1 hi
  obtain ⟨j, hj, rfl⟩ := h.mem hr
  simp only
  rw [h.dm]; omega
theorem ok_nums {s l : List Int} {b : Int} (hs : sright s = true) (hl : (l.length : Int) = pr s) (hr : ∀ i ∈ l, 0 ≤ i ∧ i ≤ 65536) : OK (.mk 1 s l []) := by
  have hp := sright_pr hs
  refine mkOK (Or.inl rfl) hs hl rfl ?_ (fun x hx => (by cases hx)) ⟨fun x hx => (by cases hx), ?_⟩
  · simp only [Arr.kind, Arr.nums, badL, List.any_eq_false, bad, rnum]
    intro i hi
    have := hr i hi
    simp; omega
  · simp only [Arr.nums, Arr.items, vs, List.map_nil, List.sum_nil, List.length_nil]; omega
theorem RowsOf.okUp (h : RowsOf y d t m k) : OK (F.up y) := by
  rw [h.up]
  refine ok_nums (b := 0) h.ssd.1 ?_ fun i hi => ?_
  · rw [List.length_map, h.slen, ← ssize_pr h.ssd.1, h.ssd.2, h.dm]
  · have := h.upm i hi
    have := h.dm
    have := h.mb
    omega
theorem fromI_eq (h : RowsOf y d t m k) {α : Type} (L : List α) (x0 : α) (hL : L.length = m * k) (g : Arr → List α) (hg : ∀ i, i < m → g (C y t k i) = chunk L k i) :
    (fromI (ssize t) ((F.sort rowc (F.rows y)).map (·.1))).map (fun (i : Int) => L.getD i.toNat x0) = ((F.sort rowc (F.rows y)).map fun r => g r.2).flatten := by
  have hall : ∀ r, r ∈ F.sort rowc (F.rows y) → ∃ i, i < m ∧ r = ((i : Int), C y t k i) := fun r hr => h.mem hr
  unfold fromI
  rw [List.map_flatten, List.map_map, List.map_map, h.nk]
  congr 1
  refine List.map_congr_left fun r hr => ?_
  obtain ⟨i, hi, rfl⟩ := hall r hr
  simp only [Function.comp, List.map_map]
  rw [hg i hi, ← chunk_get x0 (l := L) (k := k) (i := i) (by have := mul_le (k := k) hi; omega), Int.toNat_natCast]
  refine List.map_congr_left fun j _ => ?_
  simp only [Function.comp]
  rw [← Int.natCast_mul, ← Int.natCast_add, Int.toNat_natCast]
theorem RowsOf.gather (h : RowsOf y d t m k) : F.gather y y.shape (fromI (ssize t) (F.up y).nums) = sorted y := by
  have hl := h.len
  have hz := h.ok.z
  rw [h.up]
  simp only [Arr.nums]
  have hs : sorted y = .mk y.kind y.shape ((F.sort rowc (F.rows y)).map fun r => r.2.nums).flatten ((F.sort rowc (F.rows y)).map fun r => r.2.items).flatten := rfl
  rw [hs]
  unfold F.gather
  split at hl <;> rename_i h3
  · rw [if_pos h3] at hz
    rw [if_neg (by simpa using h3), fromI_eq h y.items _ hl Arr.items fun i _ => rfl]
    have : ((F.sort rowc (F.rows y)).map fun r => r.2.nums).flatten = [] := List.length_eq_zero_iff.1 (by rw [h.numsP.length_eq, hz]; rfl)
    rw [this]
  · rw [if_neg h3] at hz
    rw [if_pos h3, fromI_eq h y.nums _ hl Arr.nums fun i _ => rfl]
    have : ((F.sort rowc (F.rows y)).map fun r => r.2.items).flatten = [] := List.length_eq_zero_iff.1 (by rw [h.itemsP.length_eq, hz]; rfl)
    rw [this]
theorem RowsOf.gw (h : RowsOf y d t m k) (h3 : y.kind = 3) (hw : weight y ≤ 262144) : F.gw y (fromI (ssize t) (F.up y).nums) ≤ 262144 := by
  have hl := h.len
  rw [if_pos h3] at hl
  have e : F.gw y (fromI (ssize t) (F.up y).nums) = (((fromI (ssize t) (F.up y).nums).map fun (i : Int) => y.items.getD i.toNat (Arr.mk 0 [] [] [])).map fun x => 1 + aweight x).sum := by
    rw [List.map_map]; rfl
  rw [e, h.up]
  simp only [Arr.nums]
  rw [fromI_eq h y.items _ hl Arr.items fun i _ => rfl, perm_sum _ h.itemsP]
  have e2 : ∀ l : List Arr, (l.map fun x => 1 + aweight x).sum = (l.length : Int) + ws l := by
    intro l
    induction l with
    | nil => simp [ws]
    | cons x l ih => rw [List.map_cons, List.sum_cons, ih, ws_cons, aweight_weight, List.length_cons]; omega
  rw [e2]
  rw [weight_val, if_pos h3] at hw
  omega
end
end F
theorem satTopSorts : Sat Try.prog 3 s3 := sat1 fine [(7, s7), (8, s8), (9, s9), (10, s10), (11, s11), (12, s12), (13, s13), (14, s14), (15, s15)] (sat7.app (sat8.app (sat9.app (sat10.app (sat11.app (sat12.app (sat13.app (sat14.app (sat15.app Sat.none))))))))) Try.func3 (by kernel_rfl) fun (y : Arr) H _ _ => ⟨noA, noA, by
  refine (wp3 y H).mpr ?_
  refine ⟨fun _ => ⟨rfl, trivial⟩, fun hc => ?_⟩
  have hc : F.few y 100 = true ∧ y.shape ≠ [] := by
    cases hf : F.few y 100
    · rw [hf] at hc; simp at hc
    · rw [hf] at hc
      refine ⟨rfl, ?_⟩
      simpa using hc
  obtain ⟨hv, hw⟩ := F.few_ok hc.1
  obtain ⟨d, t, hsh⟩ : ∃ d t, y.shape = d :: t := by
    cases h : y.shape with
    | nil => exact absurd h hc.2
    | cons d t => exact ⟨d, t, rfl⟩
  have R := F.rowsOf hv hsh
  generalize d.toNat = m at R
  generalize (F.ssize t).toNat = k at R
  have hp := F.sright_pr R.ok.s
  have hlen := R.ok.len
  have hl2 := R.okS.len
  have hz := R.ok.z
  have hdrop : y.shape.drop 1 = t := by rw [hsh]; rfl
  have hget : y.shape.getD 0 0 = d := by rw [hsh]; rfl
  have hcat : (F.up y).shape ++ t = y.shape := by rw [R.up, hsh]; rfl
  rw [hdrop, hget, hcat, if_neg hc.2, R.gather, R.upS]
  have hn1 : (F.sorted y).nums.length = y.nums.length := R.numsP.length_eq
  have hn2 : (F.sorted y).items.length = y.items.length := R.itemsP.length_eq
  have hb : y.nums.length ≤ 65536 ∧ y.items.length ≤ 65536 := by
    split at hlen <;> rename_i h3
    · rw [if_pos h3] at hz; rw [hz]; simp; omega
    · rw [if_neg h3] at hz; rw [hz]; simp; omega
  have hsd := R.ssd
  have hio : F.iota (Arr.mk 1 [] [d] []) = Arr.mk 1 [d] ((List.range m).map fun (i : Nat) => (i : Int)) [] := by
    simp only [F.iota, Arr.nums]
    rw [hsd.2, R.dm, Int.toNat_natCast]
  rw [hio]
  have hd0 : 0 ≤ d ∧ d ≤ 65536 := by have := R.dm; have := R.mb; omega
  have hsame : ∀ x, F.same x x = true := fun x => (F.same_iff x x).2 rfl
  rw [hsame, hsame]
  refine ⟨⟨hv, hc.2⟩, ⟨hv, hc.2, by omega, by omega⟩, ⟨F.ok_aright R.okUp, hv, by rw [R.up]; rfl, hc.2, R.ok.s, ?_, fun h3 => R.gw h3 (by omega), ?_⟩, ⟨F.ok_aright R.okS, hc.2⟩, ⟨?_, rfl, by simp [Arr.shape], ?_, hsd.1⟩, by simp [inR64], by simp [inR64], by simp [inR64], by simp [inR64], rfl, trivial⟩
  · rw [R.up]; exact F.within_iff.2 R.upm
  · rw [R.up]
    simp only [Arr.nums, List.length_map]
    rw [R.slen]; exact R.mb
  · exact F.ok_aright (F.ok_nums (b := 0) (by decide) rfl fun i hi => by simp at hi; omega)
  · rw [F.hneg_nn]; intro i hi; simp only [Arr.nums, List.mem_singleton] at hi; omega⟩
end A
end Go.Proofs.Ythgnjimpakpkjaa
namespace Go.Proofs.Ythgnjimpakpkjaa
namespace A
namespace F
def small (y : Arr) (n : Int) : Bool := !(y.nums.any fun v => decide (v < -n) || decide (n < v)) && decide (y.kind = 1)
def wrong (x y : Arr) : Int := if aright x ≠ 0 ∨ aright y ≠ 0 then 1 else if x.kind ≠ 1 ∨ y.kind ≠ 1 then 14 else if x.shape.length > 1 then 15 else 0
/-- the digits of a number, and what is left -/
def dig : List Int → Int → List Int × Int
  | [], n => ([], n)
  | r :: rs, n => ((dig rs n).2 % r :: (dig rs n).1, (dig rs n).2 / r)
def big : Int := 4611686018427387903
def encRow (x y : Arr) (i : Nat) : List Int := y.nums.map fun n => (dig x.nums n).1.getD i 0
def encN (x y : Arr) (k : Nat) : List Int := ((List.range k).map (encRow x y)).flatten
def enc (x y : Arr) : Arr := .mk 1 (x.shape ++ y.shape) (encN x y x.nums.length) []
def val3 (y : List Int) (at_ step : Int) (k : Nat) : Int :=
  match k with
  | 0 => 0
  | 1 => y.getD at_.toNat 0
  | 2 => y.getD at_.toNat 0 * 10 + y.getD (at_ + step).toNat 0
  | _ => (y.getD at_.toNat 0 * 10 + y.getD (at_ + step).toNat 0) * 10 + y.getD (at_ + 2 * step).toNat 0
def ten : List Int := [10, 10, 10]
def tenA : Arr := .mk 1 [3] [10, 10, 10] []
def dec (y : Arr) : Arr := .mk 1 (y.shape.drop 1) ((List.range (ssize (y.shape.drop 1)).toNat).map fun (i : Nat) => val3 y.nums (i : Int) (ssize (y.shape.drop 1)) 3) []
end F
end A
end Go.Proofs.Ythgnjimpakpkjaa
